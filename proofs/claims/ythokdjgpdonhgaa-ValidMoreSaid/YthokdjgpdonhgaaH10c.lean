import Derived.Test.YthokdjgpdonhgaaQGb
import Derived.Test.YthokdjgpdonhgaaQBe
set_option linter.unusedSimpArgs false
set_option linter.unusedVariables false
namespace Go.AM.Ythokdjgpdonhgaa
open Go.AM Go.Proofs Go.Proofs.Ythokdjgpdonhgaa Go.ChangeShapes Go.WideShapes Go.RowKit

set_option maxRecDepth 100000 in
theorem validMore_lifted (c : Contract Try.prog cfg 10 spec10) (os : Os) (started : os.Started) (H : Type) (enc : TypeId × Value → H) :
    ReturnsInHanded {} Try.checked os 10 .any (Rows.validMoreSpec.pre6 enc Try.prog Try.f10 [] false) (Rows.validMoreSpec.post enc Try.prog Try.f10 Rows.validMoreRow.apart Rows.validMoreRow.fresh Rows.validMoreRow.handsOn Rows.validMoreRow.again) := by
  refine returnsInHanded_of_change_sized (C := Try.checked) own started (by kernel_rfl) Try.func10 (ChangeSpec.witness6 (enc := enc) (C := Try.checked) false ⟨#[], #[.slice none 0 0, .agg #[.int .i64 0, .int .i64 0, .int .i64 0, .int .i64 0], .int .u8 0, .int .u8 0], []⟩ 8 (by kernel_rfl) (by kernel_rfl) (by kernel_rfl) (by kernel_rfl)) ?_
  intro W base args ds gs before hval hW _ hsz0 _
  have hW0 := hW
  have hsz : (DataW.weightsEach Try.prog (Try.f10.params.toList ++ Rows.validMoreSpec.plain.varTypes Try.prog) (ds ++ gs)).all (· ≤ reachBytes) = true := hsz0
  have hvt : Rows.validMoreSpec.plain.varTypes Try.prog = [] := rfl
  rw [hvt, Try.params10] at hsz
  obtain ⟨p, q, hA, hV, e, _⟩ := hW0
  obtain ⟨rfl, _⟩ := trodVars_none hV
  have hA' : DataW.TrodAll enc Try.prog W 0 (fun _ => true) true Try.f10.params.toList args.toList ds p := hA
  rw [Try.params10] at hA'
  obtain ⟨v0, v1, v2, v3, d0, d1, d2, d3, p0, p1, p2, p3, hv, rfl, _⟩ := trodAll_four hA'
  refine Calls.mono (law_calls (henc := enc) (cfg := cfg) (argLR_cons argSWords (argLR_cons argLimits (argLR_cons argU8 (argLR_cons argU8 (argLR_nil))))) (pre := pre10) (fun a h => ⟨inSegs h.1, h.2.2.1.1, Int.lt_of_le_of_lt h.2.2.1.2 (by decide), h.2.2.2.1.1, Int.lt_of_le_of_lt h.2.2.2.1.2 (by decide)⟩) c W base args _ p ?_ hA (by simpa using hsz)) ?_
  · intro j t v ht hv
    exact hval j t v (by simpa using ht) (by simpa using hv)
  · rintro e W' ⟨rfl, hb⟩
    exact ⟨_, rfl, law_post laidOut (by kernel_rfl) (tb := 4) rfl Try.underlying4 rfl rfl hW hb⟩

theorem validMore_of (c : Contract Try.prog cfg 10 spec10) : Rows.ValidMoreSaid :=
  OpenClaim.holds_of_wide 10 Try.f10 rfl rfl rfl rfl rfl rfl rfl ⟨rfl, rfl, rfl, rfl, rfl⟩ rfl rfl rfl rfl rfl (by kernel_rfl) Try.func10 (by kernel_rfl)
    (of_decide_eq_true (by kernel_rfl)) (by unfold Func.isWrapper; first | (rw [if_pos (by decide +kernel)]; kernel_rfl) | (rw [if_neg (by decide +kernel)]; exact ⟨rfl, rfl⟩))
    (fun os started H enc _ => validMore_lifted c os started H enc)


theorem validMore_proved : Rows.ValidMoreSaid := validMore_of c10

end Go.AM.Ythokdjgpdonhgaa
