import Derived.Test.YtpjenobkibfpcaaKRB07
import Derived.Test.YtpjenobkibfpcaaCB30e
set_option linter.unusedSimpArgs false
set_option linter.unusedVariables false
namespace Go.AM.Ytpjenobkibfpcaa
open Go.AM Go.Proofs Go.Proofs.Ytpjenobkibfpcaa Go.ChangeShapes Go.WideShapes Go.RowKit
set_option maxRecDepth 100000 in
theorem Z5C(c:Contract Try.prog cfg 8 Zjg)(os:Os)(started:os.Started)(H:Type)(enc:TypeId × Value->H):
  ReturnsInHanded {} Try.checked os 8 .any (Rows.rebaseSquareSpec.pre6 enc Try.prog Try.f8 [] false) (Rows.rebaseSquareSpec.post enc Try.prog Try.f8 Rows.rebaseSquareRow.apart Rows.rebaseSquareRow.fresh Rows.rebaseSquareRow.handsOn Rows.rebaseSquareRow.again):=by
 refine returnsInHanded_of_change_sized (C:=Try.checked) own started (by kernel_rfl) Try.func8 (ChangeSpec.witness6 (enc:=enc) (C:=Try.checked) false ⟨#[],#[.agg #[.int .i64 0,.int .i64 0,.slice none 0 0,.slice none 0 0,.int .i64 0,.slice none 0 0,.slice none 0 0,.slice none 0 0,.slice none 0 0,.int .i64 0,.slice none 0 0],.agg #[.int .i64 0,.int .i64 0,.slice none 0 0,.slice none 0 0,.int .i64 0,.slice none 0 0,.slice none 0 0,.slice none 0 0,.slice none 0 0,.int .i64 0,.slice none 0 0],.agg #[.int .i64 0,.slice none 0 0,.slice none 0 0]],[]⟩ 8 (by kernel_rfl) (by kernel_rfl) (by kernel_rfl) (by kernel_rfl)) ?_
 intro W base args ds gs before hval hW _ hsz0 _
 have hW0:=hW
 have hsz:(DataW.weightsEach Try.prog (Try.f8.params.toList++Rows.rebaseSquareSpec.plain.varTypes Try.prog) (ds++gs)).all (·<=reachBytes)=true:=hsz0
 have hvt:Rows.rebaseSquareSpec.plain.varTypes Try.prog=[]:=rfl
 rw [hvt,Try.params8] at hsz
 obtain ⟨p,q,hA,hV,e,_⟩:=hW0
 obtain ⟨rfl,_⟩:=trodVars_none hV
 have hA':DataW.TrodAll enc Try.prog W 0 (fun _=> true) true Try.f8.params.toList args.toList ds p:=hA
 rw [Try.params8] at hA'
 obtain ⟨v0,v1,v2,d0,d1,d2,p0,p1,p2,hv,rfl,_⟩:=trodAll_three hA'
 refine Calls.mono (Zmp (henc:=enc) (cfg:=cfg) (Z6t Zlp (Z6t Zlp (Z6t ZsJ (ZmT)))) (pre:=ZuH) (fun a h=> ⟨h.1,h.2.1,h.2.2.1.1,h.2.2.1.2⟩) c W base args _ p ?_ hA (by simpa using hsz)) ?_
 ·intro j t v ht hv
  exact hval j t v (by simpa using ht) (by simpa using hv)
 ·rintro e W' ⟨rfl,hb⟩
  exact ⟨_,rfl,Zpw Zsu (by kernel_rfl) (tb:=4) rfl Try.underlying4 rfl rfl hW hb⟩
theorem Z9Q(c:Contract Try.prog cfg 8 Zjg):Rows.RebaseSquareSaid:=
 OpenClaim.holds_of_wide 8 Try.f8 rfl rfl rfl rfl rfl rfl rfl ⟨rfl,rfl,rfl,rfl,rfl⟩ rfl rfl rfl rfl rfl (by kernel_rfl) Try.func8 (by kernel_rfl)
  (of_decide_eq_true (by kernel_rfl)) (by unfold Func.isWrapper;first | (rw [if_pos (by decide+kernel)];kernel_rfl) | (rw [if_neg (by decide+kernel)];exact ⟨rfl,rfl⟩))
  (fun os started H enc _=> Z5C c os started H enc)
theorem rebaseSquare_proved:Rows.RebaseSquareSaid:=Z9Q c8
end Go.AM.Ytpjenobkibfpcaa
