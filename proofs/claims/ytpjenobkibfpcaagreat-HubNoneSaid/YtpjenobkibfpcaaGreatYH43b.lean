import Derived.Test.YtpjenobkibfpcaaGreatZKRB07
import Derived.Test.YtpjenobkibfpcaaGreatYB43e
set_option linter.unusedSimpArgs false
set_option linter.unusedVariables false
namespace Go.AM.YtpjenobkibfpcaaGreat
open Go.AM Go.Proofs Go.Proofs.YtpjenobkibfpcaaGreat Go.ChangeShapes Go.WideShapes Go.RowKit
set_option maxRecDepth 100000 in
theorem ZcL(c:Contract Tryz.prog cfg 13 ZeL)(os:Os)(started:os.Started)(H:Type)(enc:TypeId × Value->H):
  ReturnsInHanded {} Tryz.checked os 13 .any (Rows.hubNoneSpec.pre6 enc Tryz.prog Tryz.f13 [] false) (Rows.hubNoneSpec.post enc Tryz.prog Tryz.f13 Rows.hubNoneRow.apart Rows.hubNoneRow.fresh Rows.hubNoneRow.handsOn Rows.hubNoneRow.again):=by
 refine returnsInHanded_of_change_sized (C:=Tryz.checked) own started V6 Tryz.func13 (ChangeSpec.witness6 (enc:=enc) (C:=Tryz.checked) false ⟨#[],#[.agg #[.int .i64 0,.int .i64 0,.int .i64 0,.int .i64 0,.int .i64 0,.slice none 0 0,.slice none 0 0,.int .i64 0,.slice none 0 0,.slice none 0 0,.slice none 0 0,.slice none 0 0,.int .i64 0,.slice none 0 0]],[]⟩ 8 V6 V6 V6 V6) ?_
 intro W s args ds gs ae u hW _ b _
 have af:=hW
 have ab:(DataW.weightsEach Tryz.prog (Tryz.f13.params.toList++Rows.hubNoneSpec.plain.varTypes Tryz.prog) (ds++gs)).all (·<=reachBytes)=true:=b
 have ah:Rows.hubNoneSpec.plain.varTypes Tryz.prog=[]:=rfl
 rw [ah,Tryz.params13] at ab
 obtain ⟨p,q,hA,hV,e,_⟩:=af
 obtain ⟨rfl,_⟩:=trodVars_none hV
 have aa:DataW.TrodAll enc Tryz.prog W 0 (fun _=> true) true Tryz.f13.params.toList args.toList ds p:=hA
 rw [Tryz.params13] at aa
 obtain ⟨v0,d0,hv,rfl,_⟩:=trodAll_one aa
 refine Calls.mono (Zo1 (henc:=enc) (cfg:=cfg) (Zkf Ztb (Zos)) (pre:=Zqg) (fun a h=> h.1) c W s args _ p ?_ hA (by simpa using ab)) ?_
 .intro j t v ht hv
  exact u j t v (by simpa using ht) (by simpa using hv)
 .rintro e W' ⟨rfl,hb⟩
  exact ⟨_,rfl,ZrW Zvj V6 (tb:=4) rfl Tryz.underlying4 rfl rfl hW hb⟩
theorem ZjT(c:Contract Tryz.prog cfg 13 ZeL):Rows.HubNoneSaid:=
 OpenClaim.holds_of_wide 13 Tryz.f13 rfl rfl rfl rfl rfl rfl rfl ⟨rfl,rfl,rfl,rfl,rfl⟩ rfl rfl rfl rfl rfl V6 Tryz.func13 V6
  (of_decide_eq_true V6) (by unfold Func.isWrapper;first | (rw [if_pos (by decide+kernel)];kernel_rfl) | (rw [if_neg (by decide+kernel)];exact ⟨rfl,rfl⟩))
  (fun os b H enc _=> ZcL c os b H enc)
theorem hubNone_proved:Rows.HubNoneSaid:=ZjT c13
end Go.AM.YtpjenobkibfpcaaGreat
