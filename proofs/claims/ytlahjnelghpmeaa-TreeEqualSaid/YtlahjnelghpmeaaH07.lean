/- The laws of chapter 7: out of what is known of their functions. -/
import Derived.Test.YtlahjnelghpmeaaRows
import Derived.Test.YtlahjnelghpmeaaAmX
import Derived.Test.YtlahjnelghpmeaaM07
import Derived.ProofKit
set_option linter.unusedSimpArgs false
set_option linter.unusedVariables false
namespace Go.AM.Ytlahjnelghpmeaa
open Go.AM Go.Proofs Go.Proofs.Ytlahjnelghpmeaa Go.ChangeShapes Go.WideShapes Go.RowKit

theorem own : ownKnob Try.prog.godebug = none := by kernel_rfl
theorem laidOut : laidOutB Try.prog = true := by kernel_rfl
theorem treeTypes : TreeTypes cfg := ⟨rfl, rfl, ⟨_, rfl⟩, ⟨_, rfl⟩, ⟨_, rfl, rfl⟩, ⟨_, _, rfl, rfl⟩, ⟨_, _, rfl, rfl, rfl⟩, ⟨_, _, rfl, rfl, rfl⟩⟩
theorem argTree {H : Type} {henc : TypeId × Value → H} : ArgR henc Try.prog cfg (aEl .tree) 38 inT := argR_el cfgOk rfl ⟨_, _, rfl⟩ (fun _ n cs h => rd_tree cfgOk treeTypes n cs h)

set_option maxRecDepth 100000 in
theorem treeNorms_lifted (c : Contract Try.prog cfg 6 spec6) (os : Os) (started : os.Started) (H : Type) (enc : TypeId × Value → H) :
    ReturnsInHanded {} Try.checked os 6 .any (Rows.treeNormsSpec.pre6 enc Try.prog Try.f6 [] false) (Rows.treeNormsSpec.post enc Try.prog Try.f6 Rows.treeNormsRow.apart Rows.treeNormsRow.fresh Rows.treeNormsRow.handsOn Rows.treeNormsRow.again) := by
  refine returnsInHanded_of_change_sized (C := Try.checked) own started (by kernel_rfl) Try.func6 (ChangeSpec.witness6 (enc := enc) (C := Try.checked) false ⟨#[], #[.agg #[.int .i64 0, .slice none 0 0, .slice none 0 0]], []⟩ 8 (by kernel_rfl) (by kernel_rfl) (by kernel_rfl) (by kernel_rfl)) ?_
  intro W base args ds gs before hval hW _ hsz0 _
  have hW0 := hW
  have hsz : (DataW.weightsEach Try.prog (Try.f6.params.toList ++ Rows.treeNormsSpec.plain.varTypes Try.prog) (ds ++ gs)).all (· ≤ reachBytes) = true := hsz0
  have hvt : Rows.treeNormsSpec.plain.varTypes Try.prog = [] := rfl
  rw [hvt, Try.params6] at hsz
  obtain ⟨p, q, hA, hV, e, _⟩ := hW0
  obtain ⟨rfl, _⟩ := trodVars_none hV
  have hA' : DataW.TrodAll enc Try.prog W 0 (fun _ => true) true Try.f6.params.toList args.toList ds p := hA
  rw [Try.params6] at hA'
  obtain ⟨v0, d0, hv, rfl, _⟩ := trodAll_one hA'
  refine Calls.mono (law_calls (henc := enc) (cfg := cfg) (argLR_cons argTree (argLR_nil)) (pre := pre6) (fun a h => h.1.1) c W base args _ p ?_ hA (by simpa using hsz)) ?_
  · intro j t v ht hv
    exact hval j t v (by simpa using ht) (by simpa using hv)
  · rintro e W' ⟨rfl, hb⟩
    exact ⟨_, rfl, law_post laidOut (by kernel_rfl) (tb := 4) rfl Try.underlying4 rfl rfl hW hb⟩

theorem treeNorms_of (c : Contract Try.prog cfg 6 spec6) : Rows.TreeNormsSaid :=
  OpenClaim.holds_of_wide 6 Try.f6 rfl rfl rfl rfl rfl rfl rfl ⟨rfl, rfl, rfl, rfl, rfl⟩ rfl rfl rfl rfl rfl (by kernel_rfl) Try.func6 (by kernel_rfl)
    (of_decide_eq_true (by kernel_rfl)) (by unfold Func.isWrapper; first | (rw [if_pos (by decide +kernel)]; kernel_rfl) | (rw [if_neg (by decide +kernel)]; exact ⟨rfl, rfl⟩))
    (fun os started H enc _ => treeNorms_lifted c os started H enc)

set_option maxRecDepth 100000 in
theorem treeEqual_lifted (c : Contract Try.prog cfg 7 spec7) (os : Os) (started : os.Started) (H : Type) (enc : TypeId × Value → H) :
    ReturnsInHanded {} Try.checked os 7 .any (Rows.treeEqualSpec.pre6 enc Try.prog Try.f7 [] false) (Rows.treeEqualSpec.post enc Try.prog Try.f7 Rows.treeEqualRow.apart Rows.treeEqualRow.fresh Rows.treeEqualRow.handsOn Rows.treeEqualRow.again) := by
  refine returnsInHanded_of_change_sized (C := Try.checked) own started (by kernel_rfl) Try.func7 (ChangeSpec.witness6 (enc := enc) (C := Try.checked) false ⟨#[], #[.agg #[.int .i64 0, .slice none 0 0, .slice none 0 0], .agg #[.int .i64 0, .slice none 0 0, .slice none 0 0]], []⟩ 8 (by kernel_rfl) (by kernel_rfl) (by kernel_rfl) (by kernel_rfl)) ?_
  intro W base args ds gs before hval hW _ hsz0 _
  have hW0 := hW
  have hsz : (DataW.weightsEach Try.prog (Try.f7.params.toList ++ Rows.treeEqualSpec.plain.varTypes Try.prog) (ds ++ gs)).all (· ≤ reachBytes) = true := hsz0
  have hvt : Rows.treeEqualSpec.plain.varTypes Try.prog = [] := rfl
  rw [hvt, Try.params7] at hsz
  obtain ⟨p, q, hA, hV, e, _⟩ := hW0
  obtain ⟨rfl, _⟩ := trodVars_none hV
  have hA' : DataW.TrodAll enc Try.prog W 0 (fun _ => true) true Try.f7.params.toList args.toList ds p := hA
  rw [Try.params7] at hA'
  obtain ⟨v0, v1, d0, d1, p0, p1, hv, rfl, _⟩ := trodAll_two hA'
  refine Calls.mono (law_calls (henc := enc) (cfg := cfg) (argLR_cons argTree (argLR_cons argTree (argLR_nil))) (pre := pre7) (fun a h => ⟨h.1.1, h.2.1.1⟩) c W base args _ p ?_ hA (by simpa using hsz)) ?_
  · intro j t v ht hv
    exact hval j t v (by simpa using ht) (by simpa using hv)
  · rintro e W' ⟨rfl, hb⟩
    exact ⟨_, rfl, law_post laidOut (by kernel_rfl) (tb := 4) rfl Try.underlying4 rfl rfl hW hb⟩

theorem treeEqual_of (c : Contract Try.prog cfg 7 spec7) : Rows.TreeEqualSaid :=
  OpenClaim.holds_of_wide 7 Try.f7 rfl rfl rfl rfl rfl rfl rfl ⟨rfl, rfl, rfl, rfl, rfl⟩ rfl rfl rfl rfl rfl (by kernel_rfl) Try.func7 (by kernel_rfl)
    (of_decide_eq_true (by kernel_rfl)) (by unfold Func.isWrapper; first | (rw [if_pos (by decide +kernel)]; kernel_rfl) | (rw [if_neg (by decide +kernel)]; exact ⟨rfl, rfl⟩))
    (fun os started H enc _ => treeEqual_lifted c os started H enc)

theorem treeNorms_proved : Rows.TreeNormsSaid := treeNorms_of c6
theorem treeEqual_proved : Rows.TreeEqualSaid := treeEqual_of c7

end Go.AM.Ytlahjnelghpmeaa
