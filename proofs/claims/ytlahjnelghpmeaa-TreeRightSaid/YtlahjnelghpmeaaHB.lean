/- The seat's arguments are read. -/
import Derived.Test.YtlahjnelghpmeaaRows
import Derived.Test.YtlahjnelghpmeaaAmX
import Derived.Test.YtlahjnelghpmeaaTabA
import Derived.ProofKit
set_option linter.unusedSimpArgs false
set_option linter.unusedVariables false
namespace Go.AM.Ytlahjnelghpmeaa
open Go.AM Go.Proofs Go.Proofs.Ytlahjnelghpmeaa Go.ChangeShapes Go.WideShapes Go.RowKit

theorem own : ownKnob Try.prog.godebug = none := by kernel_rfl
theorem laidOut : laidOutB Try.prog = true := by kernel_rfl
theorem treeTypes : TreeTypes cfg := ⟨rfl, rfl, ⟨_, rfl⟩, ⟨_, rfl⟩, ⟨_, rfl, rfl⟩, ⟨_, _, rfl, rfl⟩, ⟨_, _, rfl, rfl, rfl⟩, ⟨_, _, rfl, rfl, rfl⟩⟩
theorem argTree {H : Type} {henc : TypeId × Value → H} : ArgR henc Try.prog cfg (aEl .tree) 38 inT := argR_el cfgOk rfl ⟨_, _, rfl⟩ (fun _ n cs h => rd_tree cfgOk treeTypes n cs h)
theorem argInt {H : Type} {henc : TypeId × Value → H} : ArgR henc Try.prog cfg (aInt .i64) 3 (fun z => IntKind.min .i64 ≤ z ∧ z ≤ IntKind.max .i64) := argR_int cfgOk (n0 := 0) rfl

end Go.AM.Ytlahjnelghpmeaa
