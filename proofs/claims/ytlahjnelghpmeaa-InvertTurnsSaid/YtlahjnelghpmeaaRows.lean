/-
  NARROWER THAN 'FOR EVERY INPUT', by the rows' own cells (each row's printed sentence says how): AlignThrough: loops · AlignWhole: loops · AlignBehind: loops · TreeNorms: loops · TreeEqual: loops · NormalWrites: loops · NormalOnce: loops · InvertTwice: loops · TreeRight: loops · ApplyEdits: loops · ApplyMeans: loops · ApplyApart: loops · ApplySame: loops · EditRight: loops · EditParts: loops · EditEqual: loops · InvertBack: loops · InvertTurns: loops · NormalDoes: loops.
  DERIVED. THE GIVEN ROWS OF THIS SEAT. 19 by the template 'for every input the law returns true; each argument reads behind the call as it read before'; 0 by the template 'total and deterministic' (their statements: YtlahjnelghpmeaaTotals.lean).
  GIVEN WITH THE SEED: the statements are not yours to turn. If you find one false, say at which input.
  Laid BY PROGRAM, IN A SANDBOX (cutbox-rows.mjs): the forced cells as the released guide's own fill.sh prints them over the translation ffdd2361dc3100b2… (all of the seat's roots in one cut). By AI agents, Wed Nov 11 2026. No macro, syntax, notation, axiom, sorry.
-/
import Derived.Test.YtlahjnelghpmeaaChecked
import GoSem.Claim
import GoSem.ClaimJoined
import GoSem.ClaimMapViews
import Derived.JoinedTies
import Derived.KernelRfl
namespace Go.Proofs.Ytlahjnelghpmeaa
/- THE CELL 'sum', in the pinned program and in every row, IS THE sha256 OF THE DUMP (.gsa) THAT YtlahjnelghpmeaaProg.lean LOADS. Nothing in Lean hashes anything: it is a label: what it is worth is what the hold of that sum in a sandbox is worth. -/
noncomputable def Try.pinned : Pinned := { name := "ytlahjnelghpmeaa", sum := "ffdd2361dc3100b2abb91fa4dde29faca9923f50d517523644f7fdf011b53cc5", checked := Try.checked }
namespace Rows
def none {H : Type} : Left H := { results := [], args := [] }

/-- 'centolaw24.AlignThrough': WHATEVER THE INPUT: true; the input reads as it did. -/
def alignThroughSpec : ChangeSpec := { name := "alignThrough", fn := fun _ => fun
  | [d1, d2] => { results := [.lit (.bool true)], args := [d1, d2] }
  | _ => none }
def alignThroughRow : OpenClaim := { program := "ytlahjnelghpmeaa", sum := "ffdd2361dc3100b2abb91fa4dde29faca9923f50d517523644f7fdf011b53cc5", func := "cento/centolaw24.AlignThrough", spec := "alignThrough", recurses := true, loops := true, apart := false }
def AlignThroughSaid : Prop := alignThroughRow.holds Try.pinned (OpenSpec.ofChange alignThroughSpec)

/-- ITS FALSE NEIGHBOUR: 'it returns false'. Refute it at one input. -/
def alignThroughWrong : ChangeSpec := { name := "alignThrough", fn := fun _ => fun
  | [d1, d2] => { results := [.lit (.bool false)], args := [d1, d2] }
  | _ => none }
def AlignThroughWrongFalsely : Prop := alignThroughRow.holds Try.pinned (OpenSpec.ofChange alignThroughWrong)

/-- 'centolaw24.AlignWhole': WHATEVER THE INPUT: true; the input reads as it did. -/
def alignWholeSpec : ChangeSpec := { name := "alignWhole", fn := fun _ => fun
  | [d1, d2] => { results := [.lit (.bool true)], args := [d1, d2] }
  | _ => none }
def alignWholeRow : OpenClaim := { program := "ytlahjnelghpmeaa", sum := "ffdd2361dc3100b2abb91fa4dde29faca9923f50d517523644f7fdf011b53cc5", func := "cento/centolaw24.AlignWhole", spec := "alignWhole", recurses := true, loops := true, apart := false }
def AlignWholeSaid : Prop := alignWholeRow.holds Try.pinned (OpenSpec.ofChange alignWholeSpec)

/-- ITS FALSE NEIGHBOUR: 'it returns false'. Refute it at one input. -/
def alignWholeWrong : ChangeSpec := { name := "alignWhole", fn := fun _ => fun
  | [d1, d2] => { results := [.lit (.bool false)], args := [d1, d2] }
  | _ => none }
def AlignWholeWrongFalsely : Prop := alignWholeRow.holds Try.pinned (OpenSpec.ofChange alignWholeWrong)

/-- 'centolaw24.AlignBehind': WHATEVER THE INPUT: true; the input reads as it did. -/
def alignBehindSpec : ChangeSpec := { name := "alignBehind", fn := fun _ => fun
  | [d1, d2] => { results := [.lit (.bool true)], args := [d1, d2] }
  | _ => none }
def alignBehindRow : OpenClaim := { program := "ytlahjnelghpmeaa", sum := "ffdd2361dc3100b2abb91fa4dde29faca9923f50d517523644f7fdf011b53cc5", func := "cento/centolaw24.AlignBehind", spec := "alignBehind", recurses := true, loops := true, apart := false }
def AlignBehindSaid : Prop := alignBehindRow.holds Try.pinned (OpenSpec.ofChange alignBehindSpec)

/-- ITS FALSE NEIGHBOUR: 'it returns false'. Refute it at one input. -/
def alignBehindWrong : ChangeSpec := { name := "alignBehind", fn := fun _ => fun
  | [d1, d2] => { results := [.lit (.bool false)], args := [d1, d2] }
  | _ => none }
def AlignBehindWrongFalsely : Prop := alignBehindRow.holds Try.pinned (OpenSpec.ofChange alignBehindWrong)

/-- 'centolaw07.TreeNorms': WHATEVER THE INPUT: true; the input reads as it did. -/
def treeNormsSpec : ChangeSpec := { name := "treeNorms", fn := fun _ => fun
  | [d] => { results := [.lit (.bool true)], args := [d] }
  | _ => none }
def treeNormsRow : OpenClaim := { program := "ytlahjnelghpmeaa", sum := "ffdd2361dc3100b2abb91fa4dde29faca9923f50d517523644f7fdf011b53cc5", func := "cento/centolaw07.TreeNorms", spec := "treeNorms", recurses := true, loops := true, apart := false }
def TreeNormsSaid : Prop := treeNormsRow.holds Try.pinned (OpenSpec.ofChange treeNormsSpec)

/-- ITS FALSE NEIGHBOUR: 'it returns false'. Refute it at one input. -/
def treeNormsWrong : ChangeSpec := { name := "treeNorms", fn := fun _ => fun
  | [d] => { results := [.lit (.bool false)], args := [d] }
  | _ => none }
def TreeNormsWrongFalsely : Prop := treeNormsRow.holds Try.pinned (OpenSpec.ofChange treeNormsWrong)

/-- 'centolaw07.TreeEqual': WHATEVER THE INPUT: true; the input reads as it did. -/
def treeEqualSpec : ChangeSpec := { name := "treeEqual", fn := fun _ => fun
  | [d1, d2] => { results := [.lit (.bool true)], args := [d1, d2] }
  | _ => none }
def treeEqualRow : OpenClaim := { program := "ytlahjnelghpmeaa", sum := "ffdd2361dc3100b2abb91fa4dde29faca9923f50d517523644f7fdf011b53cc5", func := "cento/centolaw07.TreeEqual", spec := "treeEqual", recurses := true, loops := true, apart := false }
def TreeEqualSaid : Prop := treeEqualRow.holds Try.pinned (OpenSpec.ofChange treeEqualSpec)

/-- ITS FALSE NEIGHBOUR: 'it returns false'. Refute it at one input. -/
def treeEqualWrong : ChangeSpec := { name := "treeEqual", fn := fun _ => fun
  | [d1, d2] => { results := [.lit (.bool false)], args := [d1, d2] }
  | _ => none }
def TreeEqualWrongFalsely : Prop := treeEqualRow.holds Try.pinned (OpenSpec.ofChange treeEqualWrong)

/-- 'centolaw22.NormalWrites': WHATEVER THE INPUT: true; the input reads as it did. -/
def normalWritesSpec : ChangeSpec := { name := "normalWrites", fn := fun _ => fun
  | [d1, d2] => { results := [.lit (.bool true)], args := [d1, d2] }
  | _ => none }
def normalWritesRow : OpenClaim := { program := "ytlahjnelghpmeaa", sum := "ffdd2361dc3100b2abb91fa4dde29faca9923f50d517523644f7fdf011b53cc5", func := "cento/centolaw22.NormalWrites", spec := "normalWrites", recurses := true, loops := true, apart := false }
def NormalWritesSaid : Prop := normalWritesRow.holds Try.pinned (OpenSpec.ofChange normalWritesSpec)

/-- ITS FALSE NEIGHBOUR: 'it returns false'. Refute it at one input. -/
def normalWritesWrong : ChangeSpec := { name := "normalWrites", fn := fun _ => fun
  | [d1, d2] => { results := [.lit (.bool false)], args := [d1, d2] }
  | _ => none }
def NormalWritesWrongFalsely : Prop := normalWritesRow.holds Try.pinned (OpenSpec.ofChange normalWritesWrong)

/-- 'centolaw22.NormalOnce': WHATEVER THE INPUT: true; the input reads as it did. -/
def normalOnceSpec : ChangeSpec := { name := "normalOnce", fn := fun _ => fun
  | [d] => { results := [.lit (.bool true)], args := [d] }
  | _ => none }
def normalOnceRow : OpenClaim := { program := "ytlahjnelghpmeaa", sum := "ffdd2361dc3100b2abb91fa4dde29faca9923f50d517523644f7fdf011b53cc5", func := "cento/centolaw22.NormalOnce", spec := "normalOnce", recurses := true, loops := true, apart := false }
def NormalOnceSaid : Prop := normalOnceRow.holds Try.pinned (OpenSpec.ofChange normalOnceSpec)

/-- ITS FALSE NEIGHBOUR: 'it returns false'. Refute it at one input. -/
def normalOnceWrong : ChangeSpec := { name := "normalOnce", fn := fun _ => fun
  | [d] => { results := [.lit (.bool false)], args := [d] }
  | _ => none }
def NormalOnceWrongFalsely : Prop := normalOnceRow.holds Try.pinned (OpenSpec.ofChange normalOnceWrong)

/-- 'centolaw23.InvertTwice': WHATEVER THE INPUT: true; the input reads as it did. -/
def invertTwiceSpec : ChangeSpec := { name := "invertTwice", fn := fun _ => fun
  | [d] => { results := [.lit (.bool true)], args := [d] }
  | _ => none }
def invertTwiceRow : OpenClaim := { program := "ytlahjnelghpmeaa", sum := "ffdd2361dc3100b2abb91fa4dde29faca9923f50d517523644f7fdf011b53cc5", func := "cento/centolaw23.InvertTwice", spec := "invertTwice", recurses := true, loops := true, apart := false }
def InvertTwiceSaid : Prop := invertTwiceRow.holds Try.pinned (OpenSpec.ofChange invertTwiceSpec)

/-- ITS FALSE NEIGHBOUR: 'it returns false'. Refute it at one input. -/
def invertTwiceWrong : ChangeSpec := { name := "invertTwice", fn := fun _ => fun
  | [d] => { results := [.lit (.bool false)], args := [d] }
  | _ => none }
def InvertTwiceWrongFalsely : Prop := invertTwiceRow.holds Try.pinned (OpenSpec.ofChange invertTwiceWrong)

/-- 'centolaw07.TreeRight': WHATEVER THE INPUT: true; the input reads as it did. -/
def treeRightSpec : ChangeSpec := { name := "treeRight", fn := fun _ => fun
  | [d1, d2] => { results := [.lit (.bool true)], args := [d1, d2] }
  | _ => none }
def treeRightRow : OpenClaim := { program := "ytlahjnelghpmeaa", sum := "ffdd2361dc3100b2abb91fa4dde29faca9923f50d517523644f7fdf011b53cc5", func := "cento/centolaw07.TreeRight", spec := "treeRight", recurses := true, loops := true, apart := false }
def TreeRightSaid : Prop := treeRightRow.holds Try.pinned (OpenSpec.ofChange treeRightSpec)

/-- ITS FALSE NEIGHBOUR: 'it returns false'. Refute it at one input. -/
def treeRightWrong : ChangeSpec := { name := "treeRight", fn := fun _ => fun
  | [d1, d2] => { results := [.lit (.bool false)], args := [d1, d2] }
  | _ => none }
def TreeRightWrongFalsely : Prop := treeRightRow.holds Try.pinned (OpenSpec.ofChange treeRightWrong)

/-- 'centolaw21.ApplyEdits': WHATEVER THE INPUT: true; the input reads as it did. -/
def applyEditsSpec : ChangeSpec := { name := "applyEdits", fn := fun _ => fun
  | [d1, d2] => { results := [.lit (.bool true)], args := [d1, d2] }
  | _ => none }
def applyEditsRow : OpenClaim := { program := "ytlahjnelghpmeaa", sum := "ffdd2361dc3100b2abb91fa4dde29faca9923f50d517523644f7fdf011b53cc5", func := "cento/centolaw21.ApplyEdits", spec := "applyEdits", unfollowed := true, recurses := true, loops := true, apart := false }
def ApplyEditsSaid : Prop := applyEditsRow.holds Try.pinned (OpenSpec.ofChange applyEditsSpec)

/-- ITS FALSE NEIGHBOUR: 'it returns false'. Refute it at one input. -/
def applyEditsWrong : ChangeSpec := { name := "applyEdits", fn := fun _ => fun
  | [d1, d2] => { results := [.lit (.bool false)], args := [d1, d2] }
  | _ => none }
def ApplyEditsWrongFalsely : Prop := applyEditsRow.holds Try.pinned (OpenSpec.ofChange applyEditsWrong)

/-- 'centolaw21.ApplyMeans': WHATEVER THE INPUT: true; the input reads as it did. -/
def applyMeansSpec : ChangeSpec := { name := "applyMeans", fn := fun _ => fun
  | [d1, d2] => { results := [.lit (.bool true)], args := [d1, d2] }
  | _ => none }
def applyMeansRow : OpenClaim := { program := "ytlahjnelghpmeaa", sum := "ffdd2361dc3100b2abb91fa4dde29faca9923f50d517523644f7fdf011b53cc5", func := "cento/centolaw21.ApplyMeans", spec := "applyMeans", unfollowed := true, recurses := true, loops := true, apart := false }
def ApplyMeansSaid : Prop := applyMeansRow.holds Try.pinned (OpenSpec.ofChange applyMeansSpec)

/-- ITS FALSE NEIGHBOUR: 'it returns false'. Refute it at one input. -/
def applyMeansWrong : ChangeSpec := { name := "applyMeans", fn := fun _ => fun
  | [d1, d2] => { results := [.lit (.bool false)], args := [d1, d2] }
  | _ => none }
def ApplyMeansWrongFalsely : Prop := applyMeansRow.holds Try.pinned (OpenSpec.ofChange applyMeansWrong)

/-- 'centolaw21.ApplyApart': WHATEVER THE INPUT: true; the input reads as it did. -/
def applyApartSpec : ChangeSpec := { name := "applyApart", fn := fun _ => fun
  | [d1, d2, d3] => { results := [.lit (.bool true)], args := [d1, d2, d3] }
  | _ => none }
def applyApartRow : OpenClaim := { program := "ytlahjnelghpmeaa", sum := "ffdd2361dc3100b2abb91fa4dde29faca9923f50d517523644f7fdf011b53cc5", func := "cento/centolaw21.ApplyApart", spec := "applyApart", unfollowed := true, recurses := true, loops := true, apart := false }
def ApplyApartSaid : Prop := applyApartRow.holds Try.pinned (OpenSpec.ofChange applyApartSpec)

/-- ITS FALSE NEIGHBOUR: 'it returns false'. Refute it at one input. -/
def applyApartWrong : ChangeSpec := { name := "applyApart", fn := fun _ => fun
  | [d1, d2, d3] => { results := [.lit (.bool false)], args := [d1, d2, d3] }
  | _ => none }
def ApplyApartWrongFalsely : Prop := applyApartRow.holds Try.pinned (OpenSpec.ofChange applyApartWrong)

/-- 'centolaw21.ApplySame': WHATEVER THE INPUT: true; the input reads as it did. -/
def applySameSpec : ChangeSpec := { name := "applySame", fn := fun _ => fun
  | [d1, d2, d3] => { results := [.lit (.bool true)], args := [d1, d2, d3] }
  | _ => none }
def applySameRow : OpenClaim := { program := "ytlahjnelghpmeaa", sum := "ffdd2361dc3100b2abb91fa4dde29faca9923f50d517523644f7fdf011b53cc5", func := "cento/centolaw21.ApplySame", spec := "applySame", unfollowed := true, recurses := true, loops := true, apart := false }
def ApplySameSaid : Prop := applySameRow.holds Try.pinned (OpenSpec.ofChange applySameSpec)

/-- ITS FALSE NEIGHBOUR: 'it returns false'. Refute it at one input. -/
def applySameWrong : ChangeSpec := { name := "applySame", fn := fun _ => fun
  | [d1, d2, d3] => { results := [.lit (.bool false)], args := [d1, d2, d3] }
  | _ => none }
def ApplySameWrongFalsely : Prop := applySameRow.holds Try.pinned (OpenSpec.ofChange applySameWrong)

/-- 'centolaw20.EditRight': WHATEVER THE INPUT: true; the input reads as it did. -/
def editRightSpec : ChangeSpec := { name := "editRight", fn := fun _ => fun
  | [d] => { results := [.lit (.bool true)], args := [d] }
  | _ => none }
def editRightRow : OpenClaim := { program := "ytlahjnelghpmeaa", sum := "ffdd2361dc3100b2abb91fa4dde29faca9923f50d517523644f7fdf011b53cc5", func := "cento/centolaw20.EditRight", spec := "editRight", unfollowed := true, recurses := true, loops := true, apart := false }
def EditRightSaid : Prop := editRightRow.holds Try.pinned (OpenSpec.ofChange editRightSpec)

/-- ITS FALSE NEIGHBOUR: 'it returns false'. Refute it at one input. -/
def editRightWrong : ChangeSpec := { name := "editRight", fn := fun _ => fun
  | [d] => { results := [.lit (.bool false)], args := [d] }
  | _ => none }
def EditRightWrongFalsely : Prop := editRightRow.holds Try.pinned (OpenSpec.ofChange editRightWrong)

/-- 'centolaw20.EditParts': WHATEVER THE INPUT: true; the input reads as it did. -/
def editPartsSpec : ChangeSpec := { name := "editParts", fn := fun _ => fun
  | [d] => { results := [.lit (.bool true)], args := [d] }
  | _ => none }
def editPartsRow : OpenClaim := { program := "ytlahjnelghpmeaa", sum := "ffdd2361dc3100b2abb91fa4dde29faca9923f50d517523644f7fdf011b53cc5", func := "cento/centolaw20.EditParts", spec := "editParts", unfollowed := true, recurses := true, loops := true, apart := false }
def EditPartsSaid : Prop := editPartsRow.holds Try.pinned (OpenSpec.ofChange editPartsSpec)

/-- ITS FALSE NEIGHBOUR: 'it returns false'. Refute it at one input. -/
def editPartsWrong : ChangeSpec := { name := "editParts", fn := fun _ => fun
  | [d] => { results := [.lit (.bool false)], args := [d] }
  | _ => none }
def EditPartsWrongFalsely : Prop := editPartsRow.holds Try.pinned (OpenSpec.ofChange editPartsWrong)

/-- 'centolaw20.EditEqual': WHATEVER THE INPUT: true; the input reads as it did. -/
def editEqualSpec : ChangeSpec := { name := "editEqual", fn := fun _ => fun
  | [d1, d2] => { results := [.lit (.bool true)], args := [d1, d2] }
  | _ => none }
def editEqualRow : OpenClaim := { program := "ytlahjnelghpmeaa", sum := "ffdd2361dc3100b2abb91fa4dde29faca9923f50d517523644f7fdf011b53cc5", func := "cento/centolaw20.EditEqual", spec := "editEqual", unfollowed := true, recurses := true, loops := true, apart := false }
def EditEqualSaid : Prop := editEqualRow.holds Try.pinned (OpenSpec.ofChange editEqualSpec)

/-- ITS FALSE NEIGHBOUR: 'it returns false'. Refute it at one input. -/
def editEqualWrong : ChangeSpec := { name := "editEqual", fn := fun _ => fun
  | [d1, d2] => { results := [.lit (.bool false)], args := [d1, d2] }
  | _ => none }
def EditEqualWrongFalsely : Prop := editEqualRow.holds Try.pinned (OpenSpec.ofChange editEqualWrong)

/-- 'centolaw23.InvertBack': WHATEVER THE INPUT: true; the input reads as it did. -/
def invertBackSpec : ChangeSpec := { name := "invertBack", fn := fun _ => fun
  | [d1, d2] => { results := [.lit (.bool true)], args := [d1, d2] }
  | _ => none }
def invertBackRow : OpenClaim := { program := "ytlahjnelghpmeaa", sum := "ffdd2361dc3100b2abb91fa4dde29faca9923f50d517523644f7fdf011b53cc5", func := "cento/centolaw23.InvertBack", spec := "invertBack", unfollowed := true, recurses := true, loops := true, apart := false }
def InvertBackSaid : Prop := invertBackRow.holds Try.pinned (OpenSpec.ofChange invertBackSpec)

/-- ITS FALSE NEIGHBOUR: 'it returns false'. Refute it at one input. -/
def invertBackWrong : ChangeSpec := { name := "invertBack", fn := fun _ => fun
  | [d1, d2] => { results := [.lit (.bool false)], args := [d1, d2] }
  | _ => none }
def InvertBackWrongFalsely : Prop := invertBackRow.holds Try.pinned (OpenSpec.ofChange invertBackWrong)

/-- 'centolaw23.InvertTurns': WHATEVER THE INPUT: true; the input reads as it did. -/
def invertTurnsSpec : ChangeSpec := { name := "invertTurns", fn := fun _ => fun
  | [d] => { results := [.lit (.bool true)], args := [d] }
  | _ => none }
def invertTurnsRow : OpenClaim := { program := "ytlahjnelghpmeaa", sum := "ffdd2361dc3100b2abb91fa4dde29faca9923f50d517523644f7fdf011b53cc5", func := "cento/centolaw23.InvertTurns", spec := "invertTurns", unfollowed := true, recurses := true, loops := true, apart := false }
def InvertTurnsSaid : Prop := invertTurnsRow.holds Try.pinned (OpenSpec.ofChange invertTurnsSpec)

/-- ITS FALSE NEIGHBOUR: 'it returns false'. Refute it at one input. -/
def invertTurnsWrong : ChangeSpec := { name := "invertTurns", fn := fun _ => fun
  | [d] => { results := [.lit (.bool false)], args := [d] }
  | _ => none }
def InvertTurnsWrongFalsely : Prop := invertTurnsRow.holds Try.pinned (OpenSpec.ofChange invertTurnsWrong)

/-- 'centolaw22.NormalDoes': WHATEVER THE INPUT: true; the input reads as it did. -/
def normalDoesSpec : ChangeSpec := { name := "normalDoes", fn := fun _ => fun
  | [d1, d2] => { results := [.lit (.bool true)], args := [d1, d2] }
  | _ => none }
def normalDoesRow : OpenClaim := { program := "ytlahjnelghpmeaa", sum := "ffdd2361dc3100b2abb91fa4dde29faca9923f50d517523644f7fdf011b53cc5", func := "cento/centolaw22.NormalDoes", spec := "normalDoes", unfollowed := true, recurses := true, loops := true, apart := false }
def NormalDoesSaid : Prop := normalDoesRow.holds Try.pinned (OpenSpec.ofChange normalDoesSpec)

/-- ITS FALSE NEIGHBOUR: 'it returns false'. Refute it at one input. -/
def normalDoesWrong : ChangeSpec := { name := "normalDoes", fn := fun _ => fun
  | [d1, d2] => { results := [.lit (.bool false)], args := [d1, d2] }
  | _ => none }
def NormalDoesWrongFalsely : Prop := normalDoesRow.holds Try.pinned (OpenSpec.ofChange normalDoesWrong)

/- THE SECOND FORM. 'bulk': how many values and letters a reading holds, each counted each time it is reached (what is shared counts as often as it is met; a slice's spare places count too). A statement '..UptoSaid' is the law's where the arguments, and the package variables that the reading takes, are together of bulk at most 1048576: NARROWER than '..Said'. Prove '..Said' where nothing that the law and all that it calls make is longer than what came in: it says more and counts as full. Else prove '..UptoSaid'. A law counts once. -/
mutual
def uptoBulk {H : Type} : DataW H → Nat
  | .lit (.string bytes) => bytes.length + 1
  | .lit _ => 1
  | .nil => 1
  | .ptr d => uptoBulk d + 1
  | .slice elems spare => uptoBulkAll elems + uptoBulkAll spare + 1
  | .agg parts => uptoBulkAll parts + 1
  | .iface _ d => uptoBulk d + 1
  | .map entries => uptoBulkEntries entries + 1
  | .held _ => 1
def uptoBulkAll {H : Type} : List (DataW H) → Nat
  | [] => 0
  | d :: r => uptoBulk d + uptoBulkAll r
def uptoBulkEntries {H : Type} : List (Lit × DataW H) → Nat
  | [] => 0
  | x :: r => uptoBulkEntry x + uptoBulkEntries r
def uptoBulkEntry {H : Type} : Lit × DataW H → Nat
  | (.string bytes, d) => bytes.length + uptoBulk d + 1
  | (_, d) => uptoBulk d + 1
 end
def uptoSmall : (H : Type) → List (DataW H) → Bool := fun _ ds => decide (uptoBulkAll ds ≤ 1048576)
def OpenSpec.upto (s : _root_.Go.ChangeSpec) : _root_.Go.OpenSpec := { _root_.Go.OpenSpec.ofChange s with cond := some uptoSmall }

/-- 'centolaw24.AlignThrough', WHERE WHAT IT READS IS OF BULK AT MOST 1048576: true; the input reads as it did. -/
def alignThroughUptoRow : OpenClaim := { program := "ytlahjnelghpmeaa", sum := "ffdd2361dc3100b2abb91fa4dde29faca9923f50d517523644f7fdf011b53cc5", func := "cento/centolaw24.AlignThrough", spec := "alignThrough", recurses := true, loops := true, apart := false, narrowed := true }
def AlignThroughUptoSaid : Prop := alignThroughUptoRow.holds Try.pinned (OpenSpec.upto alignThroughSpec)

/-- 'centolaw24.AlignWhole', WHERE WHAT IT READS IS OF BULK AT MOST 1048576: true; the input reads as it did. -/
def alignWholeUptoRow : OpenClaim := { program := "ytlahjnelghpmeaa", sum := "ffdd2361dc3100b2abb91fa4dde29faca9923f50d517523644f7fdf011b53cc5", func := "cento/centolaw24.AlignWhole", spec := "alignWhole", recurses := true, loops := true, apart := false, narrowed := true }
def AlignWholeUptoSaid : Prop := alignWholeUptoRow.holds Try.pinned (OpenSpec.upto alignWholeSpec)

/-- 'centolaw24.AlignBehind', WHERE WHAT IT READS IS OF BULK AT MOST 1048576: true; the input reads as it did. -/
def alignBehindUptoRow : OpenClaim := { program := "ytlahjnelghpmeaa", sum := "ffdd2361dc3100b2abb91fa4dde29faca9923f50d517523644f7fdf011b53cc5", func := "cento/centolaw24.AlignBehind", spec := "alignBehind", recurses := true, loops := true, apart := false, narrowed := true }
def AlignBehindUptoSaid : Prop := alignBehindUptoRow.holds Try.pinned (OpenSpec.upto alignBehindSpec)

/-- 'centolaw07.TreeNorms', WHERE WHAT IT READS IS OF BULK AT MOST 1048576: true; the input reads as it did. -/
def treeNormsUptoRow : OpenClaim := { program := "ytlahjnelghpmeaa", sum := "ffdd2361dc3100b2abb91fa4dde29faca9923f50d517523644f7fdf011b53cc5", func := "cento/centolaw07.TreeNorms", spec := "treeNorms", recurses := true, loops := true, apart := false, narrowed := true }
def TreeNormsUptoSaid : Prop := treeNormsUptoRow.holds Try.pinned (OpenSpec.upto treeNormsSpec)

/-- 'centolaw07.TreeEqual', WHERE WHAT IT READS IS OF BULK AT MOST 1048576: true; the input reads as it did. -/
def treeEqualUptoRow : OpenClaim := { program := "ytlahjnelghpmeaa", sum := "ffdd2361dc3100b2abb91fa4dde29faca9923f50d517523644f7fdf011b53cc5", func := "cento/centolaw07.TreeEqual", spec := "treeEqual", recurses := true, loops := true, apart := false, narrowed := true }
def TreeEqualUptoSaid : Prop := treeEqualUptoRow.holds Try.pinned (OpenSpec.upto treeEqualSpec)

/-- 'centolaw22.NormalWrites', WHERE WHAT IT READS IS OF BULK AT MOST 1048576: true; the input reads as it did. -/
def normalWritesUptoRow : OpenClaim := { program := "ytlahjnelghpmeaa", sum := "ffdd2361dc3100b2abb91fa4dde29faca9923f50d517523644f7fdf011b53cc5", func := "cento/centolaw22.NormalWrites", spec := "normalWrites", recurses := true, loops := true, apart := false, narrowed := true }
def NormalWritesUptoSaid : Prop := normalWritesUptoRow.holds Try.pinned (OpenSpec.upto normalWritesSpec)

/-- 'centolaw22.NormalOnce', WHERE WHAT IT READS IS OF BULK AT MOST 1048576: true; the input reads as it did. -/
def normalOnceUptoRow : OpenClaim := { program := "ytlahjnelghpmeaa", sum := "ffdd2361dc3100b2abb91fa4dde29faca9923f50d517523644f7fdf011b53cc5", func := "cento/centolaw22.NormalOnce", spec := "normalOnce", recurses := true, loops := true, apart := false, narrowed := true }
def NormalOnceUptoSaid : Prop := normalOnceUptoRow.holds Try.pinned (OpenSpec.upto normalOnceSpec)

/-- 'centolaw23.InvertTwice', WHERE WHAT IT READS IS OF BULK AT MOST 1048576: true; the input reads as it did. -/
def invertTwiceUptoRow : OpenClaim := { program := "ytlahjnelghpmeaa", sum := "ffdd2361dc3100b2abb91fa4dde29faca9923f50d517523644f7fdf011b53cc5", func := "cento/centolaw23.InvertTwice", spec := "invertTwice", recurses := true, loops := true, apart := false, narrowed := true }
def InvertTwiceUptoSaid : Prop := invertTwiceUptoRow.holds Try.pinned (OpenSpec.upto invertTwiceSpec)

/-- 'centolaw07.TreeRight', WHERE WHAT IT READS IS OF BULK AT MOST 1048576: true; the input reads as it did. -/
def treeRightUptoRow : OpenClaim := { program := "ytlahjnelghpmeaa", sum := "ffdd2361dc3100b2abb91fa4dde29faca9923f50d517523644f7fdf011b53cc5", func := "cento/centolaw07.TreeRight", spec := "treeRight", recurses := true, loops := true, apart := false, narrowed := true }
def TreeRightUptoSaid : Prop := treeRightUptoRow.holds Try.pinned (OpenSpec.upto treeRightSpec)

/-- 'centolaw21.ApplyEdits', WHERE WHAT IT READS IS OF BULK AT MOST 1048576: true; the input reads as it did. -/
def applyEditsUptoRow : OpenClaim := { program := "ytlahjnelghpmeaa", sum := "ffdd2361dc3100b2abb91fa4dde29faca9923f50d517523644f7fdf011b53cc5", func := "cento/centolaw21.ApplyEdits", spec := "applyEdits", unfollowed := true, recurses := true, loops := true, apart := false, narrowed := true }
def ApplyEditsUptoSaid : Prop := applyEditsUptoRow.holds Try.pinned (OpenSpec.upto applyEditsSpec)

/-- 'centolaw21.ApplyMeans', WHERE WHAT IT READS IS OF BULK AT MOST 1048576: true; the input reads as it did. -/
def applyMeansUptoRow : OpenClaim := { program := "ytlahjnelghpmeaa", sum := "ffdd2361dc3100b2abb91fa4dde29faca9923f50d517523644f7fdf011b53cc5", func := "cento/centolaw21.ApplyMeans", spec := "applyMeans", unfollowed := true, recurses := true, loops := true, apart := false, narrowed := true }
def ApplyMeansUptoSaid : Prop := applyMeansUptoRow.holds Try.pinned (OpenSpec.upto applyMeansSpec)

/-- 'centolaw21.ApplyApart', WHERE WHAT IT READS IS OF BULK AT MOST 1048576: true; the input reads as it did. -/
def applyApartUptoRow : OpenClaim := { program := "ytlahjnelghpmeaa", sum := "ffdd2361dc3100b2abb91fa4dde29faca9923f50d517523644f7fdf011b53cc5", func := "cento/centolaw21.ApplyApart", spec := "applyApart", unfollowed := true, recurses := true, loops := true, apart := false, narrowed := true }
def ApplyApartUptoSaid : Prop := applyApartUptoRow.holds Try.pinned (OpenSpec.upto applyApartSpec)

/-- 'centolaw21.ApplySame', WHERE WHAT IT READS IS OF BULK AT MOST 1048576: true; the input reads as it did. -/
def applySameUptoRow : OpenClaim := { program := "ytlahjnelghpmeaa", sum := "ffdd2361dc3100b2abb91fa4dde29faca9923f50d517523644f7fdf011b53cc5", func := "cento/centolaw21.ApplySame", spec := "applySame", unfollowed := true, recurses := true, loops := true, apart := false, narrowed := true }
def ApplySameUptoSaid : Prop := applySameUptoRow.holds Try.pinned (OpenSpec.upto applySameSpec)

/-- 'centolaw20.EditRight', WHERE WHAT IT READS IS OF BULK AT MOST 1048576: true; the input reads as it did. -/
def editRightUptoRow : OpenClaim := { program := "ytlahjnelghpmeaa", sum := "ffdd2361dc3100b2abb91fa4dde29faca9923f50d517523644f7fdf011b53cc5", func := "cento/centolaw20.EditRight", spec := "editRight", unfollowed := true, recurses := true, loops := true, apart := false, narrowed := true }
def EditRightUptoSaid : Prop := editRightUptoRow.holds Try.pinned (OpenSpec.upto editRightSpec)

/-- 'centolaw20.EditParts', WHERE WHAT IT READS IS OF BULK AT MOST 1048576: true; the input reads as it did. -/
def editPartsUptoRow : OpenClaim := { program := "ytlahjnelghpmeaa", sum := "ffdd2361dc3100b2abb91fa4dde29faca9923f50d517523644f7fdf011b53cc5", func := "cento/centolaw20.EditParts", spec := "editParts", unfollowed := true, recurses := true, loops := true, apart := false, narrowed := true }
def EditPartsUptoSaid : Prop := editPartsUptoRow.holds Try.pinned (OpenSpec.upto editPartsSpec)

/-- 'centolaw20.EditEqual', WHERE WHAT IT READS IS OF BULK AT MOST 1048576: true; the input reads as it did. -/
def editEqualUptoRow : OpenClaim := { program := "ytlahjnelghpmeaa", sum := "ffdd2361dc3100b2abb91fa4dde29faca9923f50d517523644f7fdf011b53cc5", func := "cento/centolaw20.EditEqual", spec := "editEqual", unfollowed := true, recurses := true, loops := true, apart := false, narrowed := true }
def EditEqualUptoSaid : Prop := editEqualUptoRow.holds Try.pinned (OpenSpec.upto editEqualSpec)

/-- 'centolaw23.InvertBack', WHERE WHAT IT READS IS OF BULK AT MOST 1048576: true; the input reads as it did. -/
def invertBackUptoRow : OpenClaim := { program := "ytlahjnelghpmeaa", sum := "ffdd2361dc3100b2abb91fa4dde29faca9923f50d517523644f7fdf011b53cc5", func := "cento/centolaw23.InvertBack", spec := "invertBack", unfollowed := true, recurses := true, loops := true, apart := false, narrowed := true }
def InvertBackUptoSaid : Prop := invertBackUptoRow.holds Try.pinned (OpenSpec.upto invertBackSpec)

/-- 'centolaw23.InvertTurns', WHERE WHAT IT READS IS OF BULK AT MOST 1048576: true; the input reads as it did. -/
def invertTurnsUptoRow : OpenClaim := { program := "ytlahjnelghpmeaa", sum := "ffdd2361dc3100b2abb91fa4dde29faca9923f50d517523644f7fdf011b53cc5", func := "cento/centolaw23.InvertTurns", spec := "invertTurns", unfollowed := true, recurses := true, loops := true, apart := false, narrowed := true }
def InvertTurnsUptoSaid : Prop := invertTurnsUptoRow.holds Try.pinned (OpenSpec.upto invertTurnsSpec)

/-- 'centolaw22.NormalDoes', WHERE WHAT IT READS IS OF BULK AT MOST 1048576: true; the input reads as it did. -/
def normalDoesUptoRow : OpenClaim := { program := "ytlahjnelghpmeaa", sum := "ffdd2361dc3100b2abb91fa4dde29faca9923f50d517523644f7fdf011b53cc5", func := "cento/centolaw22.NormalDoes", spec := "normalDoes", unfollowed := true, recurses := true, loops := true, apart := false, narrowed := true }
def NormalDoesUptoSaid : Prop := normalDoesUptoRow.holds Try.pinned (OpenSpec.upto normalDoesSpec)

end Rows
end Go.Proofs.Ytlahjnelghpmeaa
