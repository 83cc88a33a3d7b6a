import Derived.Test.YtpjenobkibfpcaaKRB07
import Derived.Test.YtpjenobkibfpcaaCB30d
set_option linter.unusedSimpArgs false
set_option linter.unusedVariables false
namespace Go.AM.Ytpjenobkibfpcaa
open Go.AM Go.Proofs Go.Proofs.Ytpjenobkibfpcaa Go.ChangeShapes Go.WideShapes Go.RowKit
set_option maxRecDepth 100000 in
theorem Z4I(c:Contract Try.prog cfg 9 ZhQ)(os:Os)(started:os.Started)(H:Type)(enc:TypeId × Value->H):
  ReturnsInHanded {} Try.checked os 9 .any (Rows.rebaseTurnedSpec.pre6 enc Try.prog Try.f9 [] false) (Rows.rebaseTurnedSpec.post enc Try.prog Try.f9 Rows.rebaseTurnedRow.apart Rows.rebaseTurnedRow.fresh Rows.rebaseTurnedRow.handsOn Rows.rebaseTurnedRow.again):=by
 refine returnsInHanded_of_change_sized (C:=Try.checked) own started (by kernel_rfl) Try.func9 (ChangeSpec.witness6 (enc:=enc) (C:=Try.checked) false ⟨#[],#[.agg #[.int .i64 0,.int .i64 0,.slice none 0 0,.slice none 0 0,.int .i64 0,.slice none 0 0,.slice none 0 0,.slice none 0 0,.slice none 0 0,.int .i64 0,.slice none 0 0],.agg #[.int .i64 0,.int .i64 0,.slice none 0 0,.slice none 0 0,.int .i64 0,.slice none 0 0,.slice none 0 0,.slice none 0 0,.slice none 0 0,.int .i64 0,.slice none 0 0]],[]⟩ 8 (by kernel_rfl) (by kernel_rfl) (by kernel_rfl) (by kernel_rfl)) ?_
 intro W base args ds gs before hval hW _ hsz0 _
 have hW0:=hW
 have hsz:(DataW.weightsEach Try.prog (Try.f9.params.toList++Rows.rebaseTurnedSpec.plain.varTypes Try.prog) (ds++gs)).all (·<=reachBytes)=true:=hsz0
 have hvt:Rows.rebaseTurnedSpec.plain.varTypes Try.prog=[]:=rfl
 rw [hvt,Try.params9] at hsz
 obtain ⟨p,q,hA,hV,e,_⟩:=hW0
 obtain ⟨rfl,_⟩:=trodVars_none hV
 have hA':DataW.TrodAll enc Try.prog W 0 (fun _=> true) true Try.f9.params.toList args.toList ds p:=hA
 rw [Try.params9] at hA'
 obtain ⟨v0,v1,d0,d1,p0,p1,hv,rfl,_⟩:=trodAll_two hA'
 refine Calls.mono (ZkT (henc:=enc) (cfg:=cfg) (Zbv ZjT (Zbv ZjT (Zlh))) (pre:=ZsO) (fun a h=> ⟨h.1,h.2.1⟩) c W base args _ p ?_ hA (by simpa using hsz)) ?_
 ·intro j t v ht hv
  exact hval j t v (by simpa using ht) (by simpa using hv)
 ·rintro e W' ⟨rfl,hb⟩
  exact ⟨_,rfl,ZnP ZqD (by kernel_rfl) (tb:=4) rfl Try.underlying4 rfl rfl hW hb⟩
theorem Z8Q(c:Contract Try.prog cfg 9 ZhQ):Rows.RebaseTurnedSaid:=
 OpenClaim.holds_of_wide 9 Try.f9 rfl rfl rfl rfl rfl rfl rfl ⟨rfl,rfl,rfl,rfl,rfl⟩ rfl rfl rfl rfl rfl (by kernel_rfl) Try.func9 (by kernel_rfl)
  (of_decide_eq_true (by kernel_rfl)) (by unfold Func.isWrapper;first | (rw [if_pos (by decide+kernel)];kernel_rfl) | (rw [if_neg (by decide+kernel)];exact ⟨rfl,rfl⟩))
  (fun os started H enc _=> Z4I c os started H enc)
theorem rebaseTurned_proved:Rows.RebaseTurnedSaid:=Z8Q c9
end Go.AM.Ytpjenobkibfpcaa
