import Derived.Test.YtlahjnelghpmeaaD20
import Derived.Test.YtlahjnelghpmeaaAmXE
import Derived.Test.YtlahjnelghpmeaaB21d
set_option linter.unusedSimpArgs false
set_option linter.unusedVariables false
namespace Go.AM.Ytlahjnelghpmeaa
open Go.AM Go.Proofs Go.Proofs.Ytlahjnelghpmeaa Go.ChangeShapes Go.WideShapes Go.RowKit

set_option maxRecDepth 100000 in
theorem applySame_lifted (c : Contract Try.prog cfg 15 spec15) (os : Os) (started : os.Started) (H : Type) (enc : TypeId × Value → H) :
    ReturnsInHanded {} Try.checked os 15 .any (Rows.applySameSpec.pre6 enc Try.prog Try.f15 [] false) (Rows.applySameSpec.post enc Try.prog Try.f15 Rows.applySameRow.apart Rows.applySameRow.fresh Rows.applySameRow.handsOn Rows.applySameRow.again) := by
  refine returnsInHanded_of_change_sized (C := Try.checked) own started (by kernel_rfl) Try.func15 (ChangeSpec.witness6 (enc := enc) (C := Try.checked) false ⟨#[], #[.agg #[.int .i64 0, .slice none 0 0, .slice none 0 0], .agg #[.int .i64 0, .slice none 0 0, .slice none 0 0], .agg #[.int .i64 0, .slice none 0 0, .slice none 0 0]], []⟩ 8 (by kernel_rfl) (by kernel_rfl) (by kernel_rfl) (by kernel_rfl)) ?_
  intro W base args ds gs before hval hW _ hsz0 _
  have hW0 := hW
  have hsz : (DataW.weightsEach Try.prog (Try.f15.params.toList ++ Rows.applySameSpec.plain.varTypes Try.prog) (ds ++ gs)).all (· ≤ reachBytes) = true := hsz0
  have hvt : Rows.applySameSpec.plain.varTypes Try.prog = [] := rfl
  rw [hvt, Try.params15] at hsz
  obtain ⟨p, q, hA, hV, e, _⟩ := hW0
  obtain ⟨rfl, _⟩ := trodVars_none hV
  have hA' : DataW.TrodAll enc Try.prog W 0 (fun _ => true) true Try.f15.params.toList args.toList ds p := hA
  rw [Try.params15] at hA'
  obtain ⟨v0, v1, v2, d0, d1, d2, p0, p1, p2, hv, rfl, _⟩ := trodAll_three hA'
  refine Calls.mono (law_calls (henc := enc) (cfg := cfg) (argLR_cons argTree (argLR_cons argTree (argLR_cons argTree (argLR_nil)))) (pre := pre15) (fun a h => ⟨⟨h.1, h.2.1⟩, h.2.2.1⟩) c W base args _ p ?_ hA (by simpa using hsz)) ?_
  · intro j t v ht hv
    exact hval j t v (by simpa using ht) (by simpa using hv)
  · rintro e W' ⟨rfl, hb⟩
    exact ⟨_, rfl, law_post laidOut (by kernel_rfl) (tb := 4) rfl Try.underlying4 rfl rfl hW hb⟩

theorem applySame_of (c : Contract Try.prog cfg 15 spec15) : Rows.ApplySameSaid :=
  OpenClaim.holds_of_wide 15 Try.f15 rfl rfl rfl rfl rfl rfl rfl ⟨rfl, rfl, rfl, rfl, rfl⟩ rfl rfl rfl rfl rfl (by kernel_rfl) Try.func15 (by kernel_rfl)
    (of_decide_eq_true (by kernel_rfl)) (by unfold Func.isWrapper; first | (rw [if_pos (by decide +kernel)]; kernel_rfl) | (rw [if_neg (by decide +kernel)]; exact ⟨rfl, rfl⟩))
    (fun os started H enc _ => applySame_lifted c os started H enc)

theorem applySame_proved : Rows.ApplySameSaid := applySame_of c15

end Go.AM.Ytlahjnelghpmeaa
