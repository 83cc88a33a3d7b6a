import Derived.Test.YtcljdbpmjdgooaaEG1
import Derived.Test.YtcljdbpmjdgooaaEB9
set_option linter.unusedSimpArgs false
set_option linter.unusedVariables false
namespace Go.AM.Ytcljdbpmjdgooaa
open Go.AM Go.Proofs Go.Proofs.Ytcljdbpmjdgooaa Go.ChangeShapes Go.WideShapes Go.RowKit
set_option maxRecDepth 100000 in
theorem buildOne_lifted (c : Contract Try.prog cfg 4 spec4) (os : Os) (started : os.Started) (H : Type) (enc : TypeId × Value → H) :
    ReturnsInHanded {} Try.checked os 4 .any (Rows.buildOneSpec.pre6 enc Try.prog Try.f4 [] false) (Rows.buildOneSpec.post enc Try.prog Try.f4 Rows.buildOneRow.apart Rows.buildOneRow.fresh Rows.buildOneRow.handsOn Rows.buildOneRow.again) := by
  refine returnsInHanded_of_change_sized (C := Try.checked) own started (by kernel_rfl) Try.func4 (ChangeSpec.witness6 (enc := enc) (C := Try.checked) false ⟨#[], #[.agg #[.int .i64 0, .slice none 0 0, .slice none 0 0]], []⟩ 8 (by kernel_rfl) (by kernel_rfl) (by kernel_rfl) (by kernel_rfl)) ?_
  intro W base args ds gs before hval hW _ hsz0 _
  have hW0 := hW
  have hsz : (DataW.weightsEach Try.prog (Try.f4.params.toList ++ Rows.buildOneSpec.plain.varTypes Try.prog) (ds ++ gs)).all (· ≤ reachBytes) = true := hsz0
  have hvt : Rows.buildOneSpec.plain.varTypes Try.prog = [] := rfl
  rw [hvt, Try.params4] at hsz
  obtain ⟨p, q, hA, hV, e, _⟩ := hW0
  obtain ⟨rfl, _⟩ := trodVars_none hV
  have hA' : DataW.TrodAll enc Try.prog W 0 (fun _ => true) true Try.f4.params.toList args.toList ds p := hA
  rw [Try.params4] at hA'
  obtain ⟨v0, d0, hv, rfl, _⟩ := trodAll_one hA'
  refine Calls.mono (law_calls (henc := enc) (cfg := cfg) (argLR_cons argTree (argLR_nil)) (pre := pre4) (fun a h => h.1) c W base args _ p ?_ hA (by simpa using hsz)) ?_
  · intro j t v ht hv
    exact hval j t v (by simpa using ht) (by simpa using hv)
  · rintro e W' ⟨rfl, hb⟩
    exact ⟨_, rfl, law_post laidOut (by kernel_rfl) (tb := 4) rfl Try.underlying4 rfl rfl hW hb⟩
theorem buildOne_of (c : Contract Try.prog cfg 4 spec4) : Rows.BuildOneSaid :=
  OpenClaim.holds_of_wide 4 Try.f4 rfl rfl rfl rfl rfl rfl rfl ⟨rfl, rfl, rfl, rfl, rfl⟩ rfl rfl rfl rfl rfl (by kernel_rfl) Try.func4 (by kernel_rfl)
    (of_decide_eq_true (by kernel_rfl)) (by unfold Func.isWrapper; first | (rw [if_pos (by decide +kernel)]; kernel_rfl) | (rw [if_neg (by decide +kernel)]; exact ⟨rfl, rfl⟩))
    (fun os started H enc _ => buildOne_lifted c os started H enc)
theorem buildOne_proved : Rows.BuildOneSaid := buildOne_of c4
end Go.AM.Ytcljdbpmjdgooaa
