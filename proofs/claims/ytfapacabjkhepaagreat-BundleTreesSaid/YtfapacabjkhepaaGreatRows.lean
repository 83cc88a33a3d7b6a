/-
  NARROWER THAN 'FOR EVERY INPUT', by the rows' own cells (each row's printed sentence says how): BundleAt: loops · BundleTrees: loops · BundleCodes: loops.
  DERIVED. THE GIVEN ROWS OF THIS SEAT. 3 by the template 'for every input the law returns true; each argument reads behind the call as it read before'; 0 by the template 'total and deterministic' (their statements: YtfapacabjkhepaaGreatTotals.lean).
  GIVEN WITH THE SEED: the statements are not yours to turn. If you find one false, say at which input.
  Laid BY PROGRAM, IN A SANDBOX (cutbox-rows.mjs): the forced cells as the released guide's own fill.sh prints them over the translation c8542664b9a6568c… (all of the seat's roots in one cut). By AI agents, Wed Nov 11 2026. No macro, syntax, notation, axiom, sorry.
-/
import Derived.Test.YtfapacabjkhepaaGreatChecked
import GoSem.Claim
import GoSem.ClaimJoined
import GoSem.ClaimMapViews
import Derived.JoinedTies
import Derived.KernelRfl
namespace Go.Proofs.YtfapacabjkhepaaGreat
/- THE CELL 'sum', in the pinned program and in every row, IS THE sha256 OF THE DUMP (.gsa) THAT YtfapacabjkhepaaGreatProg.lean LOADS. Nothing in Lean hashes anything: it is a label: what it is worth is what the hold of that sum in a sandbox is worth. -/
noncomputable def Tryz.pinned : Pinned := { name := "ytfapacabjkhepaagreat", sum := "c8542664b9a6568c6ea17f77b8a7cfe1f729acd18fa189847323bb17ea867cee", checked := Tryz.checked }
namespace Rows
def none {H : Type} : Left H := { results := [], args := [] }

/-- 'centolaw44.BundleAt': WHATEVER THE INPUT: true; the input reads as it did. -/
def bundleAtSpec : ChangeSpec := { name := "bundleAt", fn := fun _ => fun
  | [d1, d2, d3] => { results := [.lit (.bool true)], args := [d1, d2, d3] }
  | _ => none }
def bundleAtRow : OpenClaim := { program := "ytfapacabjkhepaagreat", sum := "c8542664b9a6568c6ea17f77b8a7cfe1f729acd18fa189847323bb17ea867cee", func := "cento/centolaw44.BundleAt", spec := "bundleAt", unfollowed := true, recurses := true, loops := true, apart := false }
def BundleAtSaid : Prop := bundleAtRow.holds Tryz.pinned (OpenSpec.ofChange bundleAtSpec)

/-- ITS FALSE NEIGHBOUR: 'it returns false'. Refute it at one input. -/
def bundleAtWrong : ChangeSpec := { name := "bundleAt", fn := fun _ => fun
  | [d1, d2, d3] => { results := [.lit (.bool false)], args := [d1, d2, d3] }
  | _ => none }
def BundleAtWrongFalsely : Prop := bundleAtRow.holds Tryz.pinned (OpenSpec.ofChange bundleAtWrong)

/-- 'centolaw44.BundleTrees': WHATEVER THE INPUT: true; the input reads as it did. -/
def bundleTreesSpec : ChangeSpec := { name := "bundleTrees", fn := fun _ => fun
  | [d1, d2] => { results := [.lit (.bool true)], args := [d1, d2] }
  | _ => none }
def bundleTreesRow : OpenClaim := { program := "ytfapacabjkhepaagreat", sum := "c8542664b9a6568c6ea17f77b8a7cfe1f729acd18fa189847323bb17ea867cee", func := "cento/centolaw44.BundleTrees", spec := "bundleTrees", unfollowed := true, recurses := true, loops := true, apart := false }
def BundleTreesSaid : Prop := bundleTreesRow.holds Tryz.pinned (OpenSpec.ofChange bundleTreesSpec)

/-- ITS FALSE NEIGHBOUR: 'it returns false'. Refute it at one input. -/
def bundleTreesWrong : ChangeSpec := { name := "bundleTrees", fn := fun _ => fun
  | [d1, d2] => { results := [.lit (.bool false)], args := [d1, d2] }
  | _ => none }
def BundleTreesWrongFalsely : Prop := bundleTreesRow.holds Tryz.pinned (OpenSpec.ofChange bundleTreesWrong)

/-- 'centolaw44.BundleCodes': WHATEVER THE INPUT: true; the input reads as it did. -/
def bundleCodesSpec : ChangeSpec := { name := "bundleCodes", fn := fun _ => fun
  | [d1, d2, d3] => { results := [.lit (.bool true)], args := [d1, d2, d3] }
  | _ => none }
def bundleCodesRow : OpenClaim := { program := "ytfapacabjkhepaagreat", sum := "c8542664b9a6568c6ea17f77b8a7cfe1f729acd18fa189847323bb17ea867cee", func := "cento/centolaw44.BundleCodes", spec := "bundleCodes", unfollowed := true, recurses := true, loops := true, apart := false }
def BundleCodesSaid : Prop := bundleCodesRow.holds Tryz.pinned (OpenSpec.ofChange bundleCodesSpec)

/-- ITS FALSE NEIGHBOUR: 'it returns false'. Refute it at one input. -/
def bundleCodesWrong : ChangeSpec := { name := "bundleCodes", fn := fun _ => fun
  | [d1, d2, d3] => { results := [.lit (.bool false)], args := [d1, d2, d3] }
  | _ => none }
def BundleCodesWrongFalsely : Prop := bundleCodesRow.holds Tryz.pinned (OpenSpec.ofChange bundleCodesWrong)

/- THE SECOND FORM. 'bulk': how many values and letters a reading holds, each counted each time it is reached (what is shared counts as often as it is met; a slice's spare places count too). A statement '..UptoSaid' is the law's where the arguments, and the package variables that the reading takes, are together of bulk at most 1048576: NARROWER than '..Said'. Prove '..Said' where nothing that the law and all that it calls make is longer than what came in: it says more and counts as full. Else prove '..UptoSaid'. A law counts once. -/
mutual
def uptoBulk {H : Type} : DataW H → Nat
  | .lit (.string bytes) => bytes.length + 1
  | .lit _ => 1
  | .nil => 1
  | .ptr d => uptoBulk d + 1
  | .slice elems spare => uptoBulkAll elems + uptoBulkAll spare + 1
  | .agg parts => uptoBulkAll parts + 1
  | .iface _ d => uptoBulk d + 1
  | .map entries => uptoBulkEntries entries + 1
  | .held _ => 1
def uptoBulkAll {H : Type} : List (DataW H) → Nat
  | [] => 0
  | d :: r => uptoBulk d + uptoBulkAll r
def uptoBulkEntries {H : Type} : List (Lit × DataW H) → Nat
  | [] => 0
  | x :: r => uptoBulkEntry x + uptoBulkEntries r
def uptoBulkEntry {H : Type} : Lit × DataW H → Nat
  | (.string bytes, d) => bytes.length + uptoBulk d + 1
  | (_, d) => uptoBulk d + 1
 end
def uptoSmall : (H : Type) → List (DataW H) → Bool := fun _ ds => decide (uptoBulkAll ds ≤ 1048576)
def OpenSpec.upto (s : _root_.Go.ChangeSpec) : _root_.Go.OpenSpec := { _root_.Go.OpenSpec.ofChange s with cond := some uptoSmall }

/-- 'centolaw44.BundleAt', WHERE WHAT IT READS IS OF BULK AT MOST 1048576: true; the input reads as it did. -/
def bundleAtUptoRow : OpenClaim := { program := "ytfapacabjkhepaagreat", sum := "c8542664b9a6568c6ea17f77b8a7cfe1f729acd18fa189847323bb17ea867cee", func := "cento/centolaw44.BundleAt", spec := "bundleAt", unfollowed := true, recurses := true, loops := true, apart := false, narrowed := true }
def BundleAtUptoSaid : Prop := bundleAtUptoRow.holds Tryz.pinned (OpenSpec.upto bundleAtSpec)

/-- 'centolaw44.BundleTrees', WHERE WHAT IT READS IS OF BULK AT MOST 1048576: true; the input reads as it did. -/
def bundleTreesUptoRow : OpenClaim := { program := "ytfapacabjkhepaagreat", sum := "c8542664b9a6568c6ea17f77b8a7cfe1f729acd18fa189847323bb17ea867cee", func := "cento/centolaw44.BundleTrees", spec := "bundleTrees", unfollowed := true, recurses := true, loops := true, apart := false, narrowed := true }
def BundleTreesUptoSaid : Prop := bundleTreesUptoRow.holds Tryz.pinned (OpenSpec.upto bundleTreesSpec)

/-- 'centolaw44.BundleCodes', WHERE WHAT IT READS IS OF BULK AT MOST 1048576: true; the input reads as it did. -/
def bundleCodesUptoRow : OpenClaim := { program := "ytfapacabjkhepaagreat", sum := "c8542664b9a6568c6ea17f77b8a7cfe1f729acd18fa189847323bb17ea867cee", func := "cento/centolaw44.BundleCodes", spec := "bundleCodes", unfollowed := true, recurses := true, loops := true, apart := false, narrowed := true }
def BundleCodesUptoSaid : Prop := bundleCodesUptoRow.holds Tryz.pinned (OpenSpec.upto bundleCodesSpec)

end Rows
end Go.Proofs.YtfapacabjkhepaaGreat
