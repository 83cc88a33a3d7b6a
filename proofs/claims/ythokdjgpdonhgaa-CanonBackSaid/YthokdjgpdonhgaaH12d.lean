import Derived.Test.YthokdjgpdonhgaaQD4
import Derived.Test.YthokdjgpdonhgaaQBr
set_option linter.unusedSimpArgs false
set_option linter.unusedVariables false
namespace Go.AM.Ythokdjgpdonhgaa
open Go.AM Go.Proofs Go.Proofs.Ythokdjgpdonhgaa Go.ChangeShapes Go.WideShapes Go.RowKit
set_option maxRecDepth 100000 in
theorem canonBack_lifted (c : Contract Try.prog cfg 17 spec17) (os : Os) (started : os.Started) (H : Type) (enc : TypeId × Value → H) :
    ReturnsInHanded {} Try.checked os 17 .any (Rows.canonBackSpec.pre6 enc Try.prog Try.f17 [] false) (Rows.canonBackSpec.post enc Try.prog Try.f17 Rows.canonBackRow.apart Rows.canonBackRow.fresh Rows.canonBackRow.handsOn Rows.canonBackRow.again) := by
  refine returnsInHanded_of_change_sized (C := Try.checked) own started (by kernel_rfl) Try.func17 (ChangeSpec.witness6 (enc := enc) (C := Try.checked) false ⟨#[], #[.agg #[.int .i64 0, .slice none 0 0, .slice none 0 0]], []⟩ 8 (by kernel_rfl) (by kernel_rfl) (by kernel_rfl) (by kernel_rfl)) ?_
  intro W base args ds gs before hval hW _ hsz0 _
  have hW0 := hW
  have hsz : (DataW.weightsEach Try.prog (Try.f17.params.toList ++ Rows.canonBackSpec.plain.varTypes Try.prog) (ds ++ gs)).all (· ≤ reachBytes) = true := hsz0
  have hvt : Rows.canonBackSpec.plain.varTypes Try.prog = [] := rfl
  rw [hvt, Try.params17] at hsz
  obtain ⟨p, q, hA, hV, e, _⟩ := hW0
  obtain ⟨rfl, _⟩ := trodVars_none hV
  have hA' : DataW.TrodAll enc Try.prog W 0 (fun _ => true) true Try.f17.params.toList args.toList ds p := hA
  rw [Try.params17] at hA'
  obtain ⟨v0, d0, hv, rfl, _⟩ := trodAll_one hA'
  refine Calls.mono (law_calls (henc := enc) (cfg := cfg) (argLR_cons argTree (argLR_nil)) (pre := pre17) (fun a h => ⟨h.1.1, h.1.2⟩) c W base args _ p ?_ hA (by simpa using hsz)) ?_
  · intro j t v ht hv
    exact hval j t v (by simpa using ht) (by simpa using hv)
  · rintro e W' ⟨rfl, hb⟩
    exact ⟨_, rfl, law_post laidOut (by kernel_rfl) (tb := 4) rfl Try.underlying4 rfl rfl hW hb⟩
theorem canonBack_of (c : Contract Try.prog cfg 17 spec17) : Rows.CanonBackSaid :=
  OpenClaim.holds_of_wide 17 Try.f17 rfl rfl rfl rfl rfl rfl rfl ⟨rfl, rfl, rfl, rfl, rfl⟩ rfl rfl rfl rfl rfl (by kernel_rfl) Try.func17 (by kernel_rfl)
    (of_decide_eq_true (by kernel_rfl)) (by unfold Func.isWrapper; first | (rw [if_pos (by decide +kernel)]; kernel_rfl) | (rw [if_neg (by decide +kernel)]; exact ⟨rfl, rfl⟩))
    (fun os started H enc _ => canonBack_lifted c os started H enc)
theorem canonBack_proved : Rows.CanonBackSaid := canonBack_of c17
end Go.AM.Ythokdjgpdonhgaa
