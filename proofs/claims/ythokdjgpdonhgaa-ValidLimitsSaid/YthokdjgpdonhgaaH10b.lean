import Derived.Test.YthokdjgpdonhgaaQGb
import Derived.Test.YthokdjgpdonhgaaQBd
set_option linter.unusedSimpArgs false
set_option linter.unusedVariables false
namespace Go.AM.Ythokdjgpdonhgaa
open Go.AM Go.Proofs Go.Proofs.Ythokdjgpdonhgaa Go.ChangeShapes Go.WideShapes Go.RowKit

set_option maxRecDepth 100000 in
theorem validLimits_lifted (c : Contract Try.prog cfg 11 spec11) (os : Os) (started : os.Started) (H : Type) (enc : TypeId × Value → H) :
    ReturnsInHanded {} Try.checked os 11 .any (Rows.validLimitsSpec.pre6 enc Try.prog Try.f11 [] false) (Rows.validLimitsSpec.post enc Try.prog Try.f11 Rows.validLimitsRow.apart Rows.validLimitsRow.fresh Rows.validLimitsRow.handsOn Rows.validLimitsRow.again) := by
  refine returnsInHanded_of_change_sized (C := Try.checked) own started (by kernel_rfl) Try.func11 (ChangeSpec.witness6 (enc := enc) (C := Try.checked) false ⟨#[], #[.agg #[.int .i64 0, .int .i64 0, .int .i64 0, .int .i64 0]], []⟩ 8 (by kernel_rfl) (by kernel_rfl) (by kernel_rfl) (by kernel_rfl)) ?_
  intro W base args ds gs before hval hW _ hsz0 _
  have hW0 := hW
  have hsz : (DataW.weightsEach Try.prog (Try.f11.params.toList ++ Rows.validLimitsSpec.plain.varTypes Try.prog) (ds ++ gs)).all (· ≤ reachBytes) = true := hsz0
  have hvt : Rows.validLimitsSpec.plain.varTypes Try.prog = [] := rfl
  rw [hvt, Try.params11] at hsz
  obtain ⟨p, q, hA, hV, e, _⟩ := hW0
  obtain ⟨rfl, _⟩ := trodVars_none hV
  have hA' : DataW.TrodAll enc Try.prog W 0 (fun _ => true) true Try.f11.params.toList args.toList ds p := hA
  rw [Try.params11] at hA'
  obtain ⟨v0, d0, hv, rfl, _⟩ := trodAll_one hA'
  refine Calls.mono (law_calls (henc := enc) (cfg := cfg) (argLR_cons argLimits (argLR_nil)) (pre := pre11) (fun a h => trivial) c W base args _ p ?_ hA (by simpa using hsz)) ?_
  · intro j t v ht hv
    exact hval j t v (by simpa using ht) (by simpa using hv)
  · rintro e W' ⟨rfl, hb⟩
    exact ⟨_, rfl, law_post laidOut (by kernel_rfl) (tb := 4) rfl Try.underlying4 rfl rfl hW hb⟩

theorem validLimits_of (c : Contract Try.prog cfg 11 spec11) : Rows.ValidLimitsSaid :=
  OpenClaim.holds_of_wide 11 Try.f11 rfl rfl rfl rfl rfl rfl rfl ⟨rfl, rfl, rfl, rfl, rfl⟩ rfl rfl rfl rfl rfl (by kernel_rfl) Try.func11 (by kernel_rfl)
    (of_decide_eq_true (by kernel_rfl)) (by unfold Func.isWrapper; first | (rw [if_pos (by decide +kernel)]; kernel_rfl) | (rw [if_neg (by decide +kernel)]; exact ⟨rfl, rfl⟩))
    (fun os started H enc _ => validLimits_lifted c os started H enc)


theorem validLimits_proved : Rows.ValidLimitsSaid := validLimits_of c11

end Go.AM.Ythokdjgpdonhgaa
