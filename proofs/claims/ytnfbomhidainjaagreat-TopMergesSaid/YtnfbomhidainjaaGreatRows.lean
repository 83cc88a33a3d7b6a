/-
  NARROWER THAN 'FOR EVERY INPUT', by the rows' own cells (each row's printed sentence says how): TopTriangle: loops · TopMerges: loops.
  DERIVED. THE GIVEN ROWS OF THIS SEAT. 2 by the template 'for every input the law returns true; each argument reads behind the call as it read before'; 0 by the template 'total and deterministic' (their statements: YtnfbomhidainjaaGreatTotals.lean).
  GIVEN WITH THE SEED: the statements are not yours to turn. If you find one false, say at which input.
  Laid BY PROGRAM, IN A SANDBOX (cutbox-rows.mjs): the forced cells as the released guide's own fill.sh prints them over the translation 0a13ff62d24d47d9… (all of the seat's roots in one cut). By AI agents, Wed Nov 11 2026. No macro, syntax, notation, axiom, sorry.
-/
import Derived.Test.YtnfbomhidainjaaGreatChecked
import GoSem.Claim
import GoSem.ClaimJoined
import GoSem.ClaimMapViews
import Derived.JoinedTies
import Derived.KernelRfl
namespace Go.Proofs.YtnfbomhidainjaaGreat
/- THE CELL 'sum', in the pinned program and in every row, IS THE sha256 OF THE DUMP (.gsa) THAT YtnfbomhidainjaaGreatProg.lean LOADS. Nothing in Lean hashes anything: it is a label: what it is worth is what the hold of that sum in a sandbox is worth. -/
noncomputable def Tryz.pinned : Pinned := { name := "ytnfbomhidainjaagreat", sum := "0a13ff62d24d47d90e6d16310d3a4b7e6aff3d743298bb85450dc53d451f34b7", checked := Tryz.checked }
namespace Rows
def none {H : Type} : Left H := { results := [], args := [] }

/-- 'centotop.TopTriangle': WHATEVER THE INPUT: true; the input reads as it did. -/
def topTriangleSpec : ChangeSpec := { name := "topTriangle", fn := fun _ => fun
  | [d1, d2, d3, d4] => { results := [.lit (.bool true)], args := [d1, d2, d3, d4] }
  | _ => none }
def topTriangleRow : OpenClaim := { program := "ytnfbomhidainjaagreat", sum := "0a13ff62d24d47d90e6d16310d3a4b7e6aff3d743298bb85450dc53d451f34b7", func := "cento/centotop.TopTriangle", spec := "topTriangle", unfollowed := true, recurses := true, loops := true, apart := false }
def TopTriangleSaid : Prop := topTriangleRow.holds Tryz.pinned (OpenSpec.ofChange topTriangleSpec)

/-- ITS FALSE NEIGHBOUR: 'it returns false'. Refute it at one input. -/
def topTriangleWrong : ChangeSpec := { name := "topTriangle", fn := fun _ => fun
  | [d1, d2, d3, d4] => { results := [.lit (.bool false)], args := [d1, d2, d3, d4] }
  | _ => none }
def TopTriangleWrongFalsely : Prop := topTriangleRow.holds Tryz.pinned (OpenSpec.ofChange topTriangleWrong)

/-- 'centotop.TopMerges': WHATEVER THE INPUT: true; the input reads as it did. -/
def topMergesSpec : ChangeSpec := { name := "topMerges", fn := fun _ => fun
  | [d1, d2, d3, d4] => { results := [.lit (.bool true)], args := [d1, d2, d3, d4] }
  | _ => none }
def topMergesRow : OpenClaim := { program := "ytnfbomhidainjaagreat", sum := "0a13ff62d24d47d90e6d16310d3a4b7e6aff3d743298bb85450dc53d451f34b7", func := "cento/centotop.TopMerges", spec := "topMerges", unfollowed := true, recurses := true, loops := true, apart := false }
def TopMergesSaid : Prop := topMergesRow.holds Tryz.pinned (OpenSpec.ofChange topMergesSpec)

/-- ITS FALSE NEIGHBOUR: 'it returns false'. Refute it at one input. -/
def topMergesWrong : ChangeSpec := { name := "topMerges", fn := fun _ => fun
  | [d1, d2, d3, d4] => { results := [.lit (.bool false)], args := [d1, d2, d3, d4] }
  | _ => none }
def TopMergesWrongFalsely : Prop := topMergesRow.holds Tryz.pinned (OpenSpec.ofChange topMergesWrong)

/- THE SECOND FORM. 'bulk': how many values and letters a reading holds, each counted each time it is reached (what is shared counts as often as it is met; a slice's spare places count too). A statement '..UptoSaid' is the law's where the arguments, and the package variables that the reading takes, are together of bulk at most 1048576: NARROWER than '..Said'. Prove '..Said' where nothing that the law and all that it calls make is longer than what came in: it says more and counts as full. Else prove '..UptoSaid'. A law counts once. -/
mutual
def uptoBulk {H : Type} : DataW H → Nat
  | .lit (.string bytes) => bytes.length + 1
  | .lit _ => 1
  | .nil => 1
  | .ptr d => uptoBulk d + 1
  | .slice elems spare => uptoBulkAll elems + uptoBulkAll spare + 1
  | .agg parts => uptoBulkAll parts + 1
  | .iface _ d => uptoBulk d + 1
  | .map entries => uptoBulkEntries entries + 1
  | .held _ => 1
def uptoBulkAll {H : Type} : List (DataW H) → Nat
  | [] => 0
  | d :: r => uptoBulk d + uptoBulkAll r
def uptoBulkEntries {H : Type} : List (Lit × DataW H) → Nat
  | [] => 0
  | x :: r => uptoBulkEntry x + uptoBulkEntries r
def uptoBulkEntry {H : Type} : Lit × DataW H → Nat
  | (.string bytes, d) => bytes.length + uptoBulk d + 1
  | (_, d) => uptoBulk d + 1
 end
def uptoSmall : (H : Type) → List (DataW H) → Bool := fun _ ds => decide (uptoBulkAll ds ≤ 1048576)
def OpenSpec.upto (s : _root_.Go.ChangeSpec) : _root_.Go.OpenSpec := { _root_.Go.OpenSpec.ofChange s with cond := some uptoSmall }

/-- 'centotop.TopTriangle', WHERE WHAT IT READS IS OF BULK AT MOST 1048576: true; the input reads as it did. -/
def topTriangleUptoRow : OpenClaim := { program := "ytnfbomhidainjaagreat", sum := "0a13ff62d24d47d90e6d16310d3a4b7e6aff3d743298bb85450dc53d451f34b7", func := "cento/centotop.TopTriangle", spec := "topTriangle", unfollowed := true, recurses := true, loops := true, apart := false, narrowed := true }
def TopTriangleUptoSaid : Prop := topTriangleUptoRow.holds Tryz.pinned (OpenSpec.upto topTriangleSpec)

/-- 'centotop.TopMerges', WHERE WHAT IT READS IS OF BULK AT MOST 1048576: true; the input reads as it did. -/
def topMergesUptoRow : OpenClaim := { program := "ytnfbomhidainjaagreat", sum := "0a13ff62d24d47d90e6d16310d3a4b7e6aff3d743298bb85450dc53d451f34b7", func := "cento/centotop.TopMerges", spec := "topMerges", unfollowed := true, recurses := true, loops := true, apart := false, narrowed := true }
def TopMergesUptoSaid : Prop := topMergesUptoRow.holds Tryz.pinned (OpenSpec.upto topMergesSpec)

end Rows
end Go.Proofs.YtnfbomhidainjaaGreat
