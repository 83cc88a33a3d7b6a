import Derived.Test.YtpjenobkibfpcaaGreatZKL07
import Derived.Test.YtpjenobkibfpcaaGreatYB43c
set_option linter.unusedSimpArgs false
set_option linter.unusedVariables false
namespace Go.AM.YtpjenobkibfpcaaGreat
open Go.AM Go.Proofs Go.Proofs.YtpjenobkibfpcaaGreat Go.ChangeShapes Go.WideShapes Go.RowKit
set_option maxRecDepth 100000 in
theorem Zar(c:Contract Tryz.prog cfg 9 ZmI)(os:Os)(started:os.Started)(H:Type)(enc:TypeId × Value->H):
  ReturnsInHanded {} Tryz.checked os 9 .any (Rows.hubTurnedSpec.pre6 enc Tryz.prog Tryz.f9 [] false) (Rows.hubTurnedSpec.post enc Tryz.prog Tryz.f9 Rows.hubTurnedRow.apart Rows.hubTurnedRow.fresh Rows.hubTurnedRow.handsOn Rows.hubTurnedRow.again):=by
 refine returnsInHanded_of_change_sized (C:=Tryz.checked) own started V4 Tryz.func9 (ChangeSpec.witness6 (enc:=enc) (C:=Tryz.checked) false ⟨#[],#[.agg #[.int .i64 0,.slice none 0 0,.slice none 0 0],.agg #[.int .i64 0,.int .i64 0,.slice none 0 0,.slice none 0 0,.int .i64 0,.slice none 0 0,.slice none 0 0,.slice none 0 0,.slice none 0 0,.int .i64 0,.slice none 0 0],.agg #[.int .i64 0,.int .i64 0,.slice none 0 0,.slice none 0 0,.int .i64 0,.slice none 0 0,.slice none 0 0,.slice none 0 0,.slice none 0 0,.int .i64 0,.slice none 0 0]],[]⟩ 8 V4 V4 V4 V4) ?_
 intro W d args ds gs ae u hW _ s _
 have af:=hW
 have aa:(DataW.weightsEach Tryz.prog (Tryz.f9.params.toList++Rows.hubTurnedSpec.plain.varTypes Tryz.prog) (ds++gs)).all (·<=reachBytes)=true:=s
 have ah:Rows.hubTurnedSpec.plain.varTypes Tryz.prog=[]:=rfl
 rw [ah,Tryz.params9] at aa
 obtain ⟨p,q,hA,hV,e,_⟩:=af
 obtain ⟨rfl,_⟩:=trodVars_none hV
 have ab:DataW.TrodAll enc Tryz.prog W 0 (fun _=> true) true Tryz.f9.params.toList args.toList ds p:=hA
 rw [Tryz.params9] at ab
 obtain ⟨v0,v1,v2,d0,d1,d2,p0,p1,p2,hv,rfl,_⟩:=trodAll_three ab
 refine Calls.mono (ZqB (henc:=enc) (cfg:=cfg) (Z7S ZyJ (Z7S ZpE (Z7S ZpE (Zr8)))) (pre:=ZBw) (fun a h=> ⟨h.1,h.2.1,h.2.2.1⟩) c W d args _ p ?_ hA (by simpa using aa)) ?_
 .intro j t v ht hv
  exact u j t v (by simpa using ht) (by simpa using hv)
 .rintro e W' ⟨rfl,hb⟩
  exact ⟨_,rfl,ZuO Zyv V4 (tb:=4) rfl Tryz.underlying4 rfl rfl hW hb⟩
theorem Zic(c:Contract Tryz.prog cfg 9 ZmI):Rows.HubTurnedSaid:=
 OpenClaim.holds_of_wide 9 Tryz.f9 rfl rfl rfl rfl rfl rfl rfl ⟨rfl,rfl,rfl,rfl,rfl⟩ rfl rfl rfl rfl rfl V4 Tryz.func9 V4
  (of_decide_eq_true V4) (by unfold Func.isWrapper;first | (rw [if_pos (by decide+kernel)];kernel_rfl) | (rw [if_neg (by decide+kernel)];exact ⟨rfl,rfl⟩))
  (fun os d H enc _=> Zar c os d H enc)
theorem hubTurned_proved:Rows.HubTurnedSaid:=Zic c9
end Go.AM.YtpjenobkibfpcaaGreat
