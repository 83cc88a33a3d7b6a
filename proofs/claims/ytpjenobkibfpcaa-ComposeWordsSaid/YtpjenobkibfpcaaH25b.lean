import Derived.Test.YtpjenobkibfpcaaKRB07
import Derived.Test.YtpjenobkibfpcaaCB25f
set_option linter.unusedSimpArgs false
set_option linter.unusedVariables false
namespace Go.AM.Ytpjenobkibfpcaa
open Go.AM Go.Proofs Go.Proofs.Ytpjenobkibfpcaa Go.ChangeShapes Go.WideShapes Go.RowKit
set_option maxRecDepth 100000 in
theorem composeWords_lifted (c : Contract Try.prog cfg 5 spec5) (os : Os) (started : os.Started) (H : Type) (enc : TypeId × Value → H) :
    ReturnsInHanded {} Try.checked os 5 .any (Rows.composeWordsSpec.pre6 enc Try.prog Try.f5 [] false) (Rows.composeWordsSpec.post enc Try.prog Try.f5 Rows.composeWordsRow.apart Rows.composeWordsRow.fresh Rows.composeWordsRow.handsOn Rows.composeWordsRow.again) := by
  refine returnsInHanded_of_change_sized (C := Try.checked) own started (by kernel_rfl) Try.func5 (ChangeSpec.witness6 (enc := enc) (C := Try.checked) false ⟨#[], #[.agg #[.int .i64 0, .int .u8 0, .int .u64 0, .int .u64 0], .agg #[.int .i64 0, .int .u8 0, .int .u64 0, .int .u64 0]], []⟩ 8 (by kernel_rfl) (by kernel_rfl) (by kernel_rfl) (by kernel_rfl)) ?_
  intro W base args ds gs before hval hW _ hsz0 _
  have hW0 := hW
  have hsz : (DataW.weightsEach Try.prog (Try.f5.params.toList ++ Rows.composeWordsSpec.plain.varTypes Try.prog) (ds ++ gs)).all (· ≤ reachBytes) = true := hsz0
  have hvt : Rows.composeWordsSpec.plain.varTypes Try.prog = [] := rfl
  rw [hvt, Try.params5] at hsz
  obtain ⟨p, q, hA, hV, e, _⟩ := hW0
  obtain ⟨rfl, _⟩ := trodVars_none hV
  have hA' : DataW.TrodAll enc Try.prog W 0 (fun _ => true) true Try.f5.params.toList args.toList ds p := hA
  rw [Try.params5] at hA'
  obtain ⟨v0, v1, d0, d1, p0, p1, hv, rfl, _⟩ := trodAll_two hA'
  refine Calls.mono (law_calls (henc := enc) (cfg := cfg) (argLR_cons argWedit (argLR_cons argWedit (argLR_nil))) (pre := pre5) (fun a h => ⟨h.1, h.2.1⟩) c W base args _ p ?_ hA (by simpa using hsz)) ?_
  · intro j t v ht hv
    exact hval j t v (by simpa using ht) (by simpa using hv)
  · rintro e W' ⟨rfl, hb⟩
    exact ⟨_, rfl, law_post laidOut (by kernel_rfl) (tb := 4) rfl Try.underlying4 rfl rfl hW hb⟩
theorem composeWords_of (c : Contract Try.prog cfg 5 spec5) : Rows.ComposeWordsSaid :=
  OpenClaim.holds_of_wide 5 Try.f5 rfl rfl rfl rfl rfl rfl rfl ⟨rfl, rfl, rfl, rfl, rfl⟩ rfl rfl rfl rfl rfl (by kernel_rfl) Try.func5 (by kernel_rfl)
    (of_decide_eq_true (by kernel_rfl)) (by unfold Func.isWrapper; first | (rw [if_pos (by decide +kernel)]; kernel_rfl) | (rw [if_neg (by decide +kernel)]; exact ⟨rfl, rfl⟩))
    (fun os started H enc _ => composeWords_lifted c os started H enc)
theorem composeWords_proved : Rows.ComposeWordsSaid := composeWords_of c5
end Go.AM.Ytpjenobkibfpcaa
