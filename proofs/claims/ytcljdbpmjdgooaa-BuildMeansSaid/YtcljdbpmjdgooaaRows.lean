/-
  NARROWER THAN 'FOR EVERY INPUT', by the rows' own cells (each row's printed sentence says how): BuildLays: loops · BuildOne: loops · BuildMeans: loops.
  DERIVED. THE GIVEN ROWS OF THIS SEAT. 3 by the template 'for every input the law returns true; each argument reads behind the call as it read before'; 0 by the template 'total and deterministic' (their statements: YtcljdbpmjdgooaaTotals.lean).
  GIVEN WITH THE SEED: the statements are not yours to turn. If you find one false, say at which input.
  Laid BY PROGRAM, IN A SANDBOX (cutbox-rows.mjs): the forced cells as the released guide's own fill.sh prints them over the translation 385fc47be1cbc553… (all of the seat's roots in one cut). By AI agents, Wed Nov 11 2026. No macro, syntax, notation, axiom, sorry.
-/
import Derived.Test.YtcljdbpmjdgooaaChecked
import GoSem.Claim
import GoSem.ClaimJoined
import GoSem.ClaimMapViews
import Derived.JoinedTies
import Derived.KernelRfl
namespace Go.Proofs.Ytcljdbpmjdgooaa
/- THE CELL 'sum', in the pinned program and in every row, IS THE sha256 OF THE DUMP (.gsa) THAT YtcljdbpmjdgooaaProg.lean LOADS. Nothing in Lean hashes anything: it is a label: what it is worth is what the hold of that sum in a sandbox is worth. -/
noncomputable def Try.pinned : Pinned := { name := "ytcljdbpmjdgooaa", sum := "385fc47be1cbc553afe7c7efa25dc602ee0a4b54ce76c2b0381a9fcd25a11b55", checked := Try.checked }
namespace Rows
def none {H : Type} : Left H := { results := [], args := [] }

/-- 'centolaw13.BuildLays': WHATEVER THE INPUT: true; the input reads as it did. -/
def buildLaysSpec : ChangeSpec := { name := "buildLays", fn := fun _ => fun
  | [d1, d2, d3] => { results := [.lit (.bool true)], args := [d1, d2, d3] }
  | _ => none }
def buildLaysRow : OpenClaim := { program := "ytcljdbpmjdgooaa", sum := "385fc47be1cbc553afe7c7efa25dc602ee0a4b54ce76c2b0381a9fcd25a11b55", func := "cento/centolaw13.BuildLays", spec := "buildLays", recurses := true, loops := true, apart := false }
def BuildLaysSaid : Prop := buildLaysRow.holds Try.pinned (OpenSpec.ofChange buildLaysSpec)

/-- ITS FALSE NEIGHBOUR: 'it returns false'. Refute it at one input. -/
def buildLaysWrong : ChangeSpec := { name := "buildLays", fn := fun _ => fun
  | [d1, d2, d3] => { results := [.lit (.bool false)], args := [d1, d2, d3] }
  | _ => none }
def BuildLaysWrongFalsely : Prop := buildLaysRow.holds Try.pinned (OpenSpec.ofChange buildLaysWrong)

/-- 'centolaw13.BuildOne': WHATEVER THE INPUT: true; the input reads as it did. -/
def buildOneSpec : ChangeSpec := { name := "buildOne", fn := fun _ => fun
  | [d] => { results := [.lit (.bool true)], args := [d] }
  | _ => none }
def buildOneRow : OpenClaim := { program := "ytcljdbpmjdgooaa", sum := "385fc47be1cbc553afe7c7efa25dc602ee0a4b54ce76c2b0381a9fcd25a11b55", func := "cento/centolaw13.BuildOne", spec := "buildOne", recurses := true, loops := true, apart := false }
def BuildOneSaid : Prop := buildOneRow.holds Try.pinned (OpenSpec.ofChange buildOneSpec)

/-- ITS FALSE NEIGHBOUR: 'it returns false'. Refute it at one input. -/
def buildOneWrong : ChangeSpec := { name := "buildOne", fn := fun _ => fun
  | [d] => { results := [.lit (.bool false)], args := [d] }
  | _ => none }
def BuildOneWrongFalsely : Prop := buildOneRow.holds Try.pinned (OpenSpec.ofChange buildOneWrong)

/-- 'centolaw13.BuildMeans': WHATEVER THE INPUT: true; the input reads as it did. -/
def buildMeansSpec : ChangeSpec := { name := "buildMeans", fn := fun _ => fun
  | [d1, d2] => { results := [.lit (.bool true)], args := [d1, d2] }
  | _ => none }
def buildMeansRow : OpenClaim := { program := "ytcljdbpmjdgooaa", sum := "385fc47be1cbc553afe7c7efa25dc602ee0a4b54ce76c2b0381a9fcd25a11b55", func := "cento/centolaw13.BuildMeans", spec := "buildMeans", recurses := true, loops := true, apart := false }
def BuildMeansSaid : Prop := buildMeansRow.holds Try.pinned (OpenSpec.ofChange buildMeansSpec)

/-- ITS FALSE NEIGHBOUR: 'it returns false'. Refute it at one input. -/
def buildMeansWrong : ChangeSpec := { name := "buildMeans", fn := fun _ => fun
  | [d1, d2] => { results := [.lit (.bool false)], args := [d1, d2] }
  | _ => none }
def BuildMeansWrongFalsely : Prop := buildMeansRow.holds Try.pinned (OpenSpec.ofChange buildMeansWrong)

/- THE SECOND FORM. 'bulk': how many values and letters a reading holds, each counted each time it is reached (what is shared counts as often as it is met; a slice's spare places count too). A statement '..UptoSaid' is the law's where the arguments, and the package variables that the reading takes, are together of bulk at most 1048576: NARROWER than '..Said'. Prove '..Said' where nothing that the law and all that it calls make is longer than what came in: it says more and counts as full. Else prove '..UptoSaid'. A law counts once. -/
mutual
def uptoBulk {H : Type} : DataW H → Nat
  | .lit (.string bytes) => bytes.length + 1
  | .lit _ => 1
  | .nil => 1
  | .ptr d => uptoBulk d + 1
  | .slice elems spare => uptoBulkAll elems + uptoBulkAll spare + 1
  | .agg parts => uptoBulkAll parts + 1
  | .iface _ d => uptoBulk d + 1
  | .map entries => uptoBulkEntries entries + 1
  | .held _ => 1
def uptoBulkAll {H : Type} : List (DataW H) → Nat
  | [] => 0
  | d :: r => uptoBulk d + uptoBulkAll r
def uptoBulkEntries {H : Type} : List (Lit × DataW H) → Nat
  | [] => 0
  | x :: r => uptoBulkEntry x + uptoBulkEntries r
def uptoBulkEntry {H : Type} : Lit × DataW H → Nat
  | (.string bytes, d) => bytes.length + uptoBulk d + 1
  | (_, d) => uptoBulk d + 1
 end
def uptoSmall : (H : Type) → List (DataW H) → Bool := fun _ ds => decide (uptoBulkAll ds ≤ 1048576)
def OpenSpec.upto (s : _root_.Go.ChangeSpec) : _root_.Go.OpenSpec := { _root_.Go.OpenSpec.ofChange s with cond := some uptoSmall }

/-- 'centolaw13.BuildLays', WHERE WHAT IT READS IS OF BULK AT MOST 1048576: true; the input reads as it did. -/
def buildLaysUptoRow : OpenClaim := { program := "ytcljdbpmjdgooaa", sum := "385fc47be1cbc553afe7c7efa25dc602ee0a4b54ce76c2b0381a9fcd25a11b55", func := "cento/centolaw13.BuildLays", spec := "buildLays", recurses := true, loops := true, apart := false, narrowed := true }
def BuildLaysUptoSaid : Prop := buildLaysUptoRow.holds Try.pinned (OpenSpec.upto buildLaysSpec)

/-- 'centolaw13.BuildOne', WHERE WHAT IT READS IS OF BULK AT MOST 1048576: true; the input reads as it did. -/
def buildOneUptoRow : OpenClaim := { program := "ytcljdbpmjdgooaa", sum := "385fc47be1cbc553afe7c7efa25dc602ee0a4b54ce76c2b0381a9fcd25a11b55", func := "cento/centolaw13.BuildOne", spec := "buildOne", recurses := true, loops := true, apart := false, narrowed := true }
def BuildOneUptoSaid : Prop := buildOneUptoRow.holds Try.pinned (OpenSpec.upto buildOneSpec)

/-- 'centolaw13.BuildMeans', WHERE WHAT IT READS IS OF BULK AT MOST 1048576: true; the input reads as it did. -/
def buildMeansUptoRow : OpenClaim := { program := "ytcljdbpmjdgooaa", sum := "385fc47be1cbc553afe7c7efa25dc602ee0a4b54ce76c2b0381a9fcd25a11b55", func := "cento/centolaw13.BuildMeans", spec := "buildMeans", recurses := true, loops := true, apart := false, narrowed := true }
def BuildMeansUptoSaid : Prop := buildMeansUptoRow.holds Try.pinned (OpenSpec.upto buildMeansSpec)

end Rows
end Go.Proofs.Ytcljdbpmjdgooaa
