import Derived.Test.YtpjenobkibfpcaaKRB07
import Derived.Test.YtpjenobkibfpcaaCB30d
set_option linter.unusedSimpArgs false
set_option linter.unusedVariables false
namespace Go.AM.Ytpjenobkibfpcaa
open Go.AM Go.Proofs Go.Proofs.Ytpjenobkibfpcaa Go.ChangeShapes Go.WideShapes Go.RowKit
set_option maxRecDepth 100000 in
theorem Z6H(c:Contract Try.prog cfg 10 Ze3)(os:Os)(started:os.Started)(H:Type)(enc:TypeId × Value->H):
  ReturnsInHanded {} Try.checked os 10 .any (Rows.rebaseSelfSpec.pre6 enc Try.prog Try.f10 [] false) (Rows.rebaseSelfSpec.post enc Try.prog Try.f10 Rows.rebaseSelfRow.apart Rows.rebaseSelfRow.fresh Rows.rebaseSelfRow.handsOn Rows.rebaseSelfRow.again):=by
 refine returnsInHanded_of_change_sized (C:=Try.checked) own started (by kernel_rfl) Try.func10 (ChangeSpec.witness6 (enc:=enc) (C:=Try.checked) false ⟨#[],#[.agg #[.int .i64 0,.int .i64 0,.slice none 0 0,.slice none 0 0,.int .i64 0,.slice none 0 0,.slice none 0 0,.slice none 0 0,.slice none 0 0,.int .i64 0,.slice none 0 0]],[]⟩ 8 (by kernel_rfl) (by kernel_rfl) (by kernel_rfl) (by kernel_rfl)) ?_
 intro W base args ds gs before hval hW _ hsz0 _
 have hW0:=hW
 have hsz:(DataW.weightsEach Try.prog (Try.f10.params.toList++Rows.rebaseSelfSpec.plain.varTypes Try.prog) (ds++gs)).all (·<=reachBytes)=true:=hsz0
 have hvt:Rows.rebaseSelfSpec.plain.varTypes Try.prog=[]:=rfl
 rw [hvt,Try.params10] at hsz
 obtain ⟨p,q,hA,hV,e,_⟩:=hW0
 obtain ⟨rfl,_⟩:=trodVars_none hV
 have hA':DataW.TrodAll enc Try.prog W 0 (fun _=> true) true Try.f10.params.toList args.toList ds p:=hA
 rw [Try.params10] at hA'
 obtain ⟨v0,d0,hv,rfl,_⟩:=trodAll_one hA'
 refine Calls.mono (Zmp (henc:=enc) (cfg:=cfg) (Zj3 ZsW (ZmM)) (pre:=Zoe) (fun a h=> h.1) c W base args _ p ?_ hA (by simpa using hsz)) ?_
 ·intro j t v ht hv
  exact hval j t v (by simpa using ht) (by simpa using hv)
 ·rintro e W' ⟨rfl,hb⟩
  exact ⟨_,rfl,Zps ZsF (by kernel_rfl) (tb:=4) rfl Try.underlying4 rfl rfl hW hb⟩
theorem ZcE(c:Contract Try.prog cfg 10 Ze3):Rows.RebaseSelfSaid:=
 OpenClaim.holds_of_wide 10 Try.f10 rfl rfl rfl rfl rfl rfl rfl ⟨rfl,rfl,rfl,rfl,rfl⟩ rfl rfl rfl rfl rfl (by kernel_rfl) Try.func10 (by kernel_rfl)
  (of_decide_eq_true (by kernel_rfl)) (by unfold Func.isWrapper;first | (rw [if_pos (by decide+kernel)];kernel_rfl) | (rw [if_neg (by decide+kernel)];exact ⟨rfl,rfl⟩))
  (fun os started H enc _=> Z6H c os started H enc)
theorem rebaseSelf_proved:Rows.RebaseSelfSaid:=ZcE c10
end Go.AM.Ytpjenobkibfpcaa
