import Derived.Test.YthokdjgpdonhgaaQBb
import Derived.Test.YthokdjgpdonhgaaQBp
set_option linter.unusedSimpArgs false
set_option linter.unusedVariables false
namespace Go.AM.Ythokdjgpdonhgaa
open Go.AM Go.Proofs Go.Proofs.Ythokdjgpdonhgaa Go.ChangeShapes Go.WideShapes Go.RowKit

set_option maxRecDepth 100000 in
theorem canonOne_lifted (c : Contract Try.prog cfg 7 spec7) (os : Os) (started : os.Started) (H : Type) (enc : TypeId × Value → H) :
    ReturnsInHanded {} Try.checked os 7 .any (Rows.canonOneSpec.pre6 enc Try.prog Try.f7 [] false) (Rows.canonOneSpec.post enc Try.prog Try.f7 Rows.canonOneRow.apart Rows.canonOneRow.fresh Rows.canonOneRow.handsOn Rows.canonOneRow.again) := by
  refine returnsInHanded_of_change_sized (C := Try.checked) own started (by kernel_rfl) Try.func7 (ChangeSpec.witness6 (enc := enc) (C := Try.checked) false ⟨#[], #[.agg #[.int .i64 0, .slice none 0 0, .slice none 0 0], .agg #[.int .i64 0, .slice none 0 0, .slice none 0 0]], []⟩ 8 (by kernel_rfl) (by kernel_rfl) (by kernel_rfl) (by kernel_rfl)) ?_
  intro W base args ds gs before hval hW _ hsz0 _
  have hW0 := hW
  have hsz : (DataW.weightsEach Try.prog (Try.f7.params.toList ++ Rows.canonOneSpec.plain.varTypes Try.prog) (ds ++ gs)).all (· ≤ reachBytes) = true := hsz0
  have hvt : Rows.canonOneSpec.plain.varTypes Try.prog = [] := rfl
  rw [hvt, Try.params7] at hsz
  obtain ⟨p, q, hA, hV, e, _⟩ := hW0
  obtain ⟨rfl, _⟩ := trodVars_none hV
  have hA' : DataW.TrodAll enc Try.prog W 0 (fun _ => true) true Try.f7.params.toList args.toList ds p := hA
  rw [Try.params7] at hA'
  obtain ⟨v0, v1, d0, d1, p0, p1, hv, rfl, _⟩ := trodAll_two hA'
  refine Calls.mono (law_calls (henc := enc) (cfg := cfg) (argLR_cons argTree (argLR_cons argTree (argLR_nil))) (pre := pre7) (fun a h => ⟨⟨h.1.1, h.1.2⟩, h.2.1.1, h.2.1.2⟩) c W base args _ p ?_ hA (by simpa using hsz)) ?_
  · intro j t v ht hv
    exact hval j t v (by simpa using ht) (by simpa using hv)
  · rintro e W' ⟨rfl, hb⟩
    exact ⟨_, rfl, law_post laidOut (by kernel_rfl) (tb := 4) rfl Try.underlying4 rfl rfl hW hb⟩

theorem canonOne_of (c : Contract Try.prog cfg 7 spec7) : Rows.CanonOneSaid :=
  OpenClaim.holds_of_wide 7 Try.f7 rfl rfl rfl rfl rfl rfl rfl ⟨rfl, rfl, rfl, rfl, rfl⟩ rfl rfl rfl rfl rfl (by kernel_rfl) Try.func7 (by kernel_rfl)
    (of_decide_eq_true (by kernel_rfl)) (by unfold Func.isWrapper; first | (rw [if_pos (by decide +kernel)]; kernel_rfl) | (rw [if_neg (by decide +kernel)]; exact ⟨rfl, rfl⟩))
    (fun os started H enc _ => canonOne_lifted c os started H enc)


theorem canonOne_proved : Rows.CanonOneSaid := canonOne_of c7

end Go.AM.Ythokdjgpdonhgaa
