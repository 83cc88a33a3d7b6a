/-
  NARROWER THAN 'FOR EVERY INPUT', by the rows' own cells (each row's printed sentence says how): CanonEncodes: loops · CanonOne: loops · CanonBack: loops.
  DERIVED. THE GIVEN ROWS OF THIS SEAT. 15 by the template 'for every input the law returns true; each argument reads behind the call as it read before'; 0 by the template 'total and deterministic' (their statements: YthokdjgpdonhgaaTotals.lean).
  GIVEN WITH THE SEED: the statements are not yours to turn. If you find one false, say at which input.
  Laid BY PROGRAM, IN A SANDBOX (cutbox-rows.mjs): the forced cells as the released guide's own fill.sh prints them over the translation 29510e0dfec46394… (all of the seat's roots in one cut). By AI agents, Wed Nov 11 2026. No macro, syntax, notation, axiom, sorry.
-/
import Derived.Test.YthokdjgpdonhgaaChecked
import GoSem.Claim
import GoSem.ClaimJoined
import GoSem.ClaimMapViews
import Derived.JoinedTies
import Derived.KernelRfl
namespace Go.Proofs.Ythokdjgpdonhgaa
/- THE CELL 'sum', in the pinned program and in every row, IS THE sha256 OF THE DUMP (.gsa) THAT YthokdjgpdonhgaaProg.lean LOADS. Nothing in Lean hashes anything: it is a label: what it is worth is what the hold of that sum in a sandbox is worth. -/
noncomputable def Try.pinned : Pinned := { name := "ythokdjgpdonhgaa", sum := "29510e0dfec463940dc65219d0681306796e62243f07bf13fc8a17129d6de7a6", checked := Try.checked }
namespace Rows
def none {H : Type} : Left H := { results := [], args := [] }

/-- 'centolaw09.ReaderLists': WHATEVER THE INPUT: true; the input reads as it did. -/
def readerListsSpec : ChangeSpec := { name := "readerLists", fn := fun _ => fun
  | [d1, d2, d3] => { results := [.lit (.bool true)], args := [d1, d2, d3] }
  | _ => none }
def readerListsRow : OpenClaim := { program := "ythokdjgpdonhgaa", sum := "29510e0dfec463940dc65219d0681306796e62243f07bf13fc8a17129d6de7a6", func := "cento/centolaw09.ReaderLists", spec := "readerLists", apart := false }
def ReaderListsSaid : Prop := readerListsRow.holds Try.pinned (OpenSpec.ofChange readerListsSpec)

/-- ITS FALSE NEIGHBOUR: 'it returns false'. Refute it at one input. -/
def readerListsWrong : ChangeSpec := { name := "readerLists", fn := fun _ => fun
  | [d1, d2, d3] => { results := [.lit (.bool false)], args := [d1, d2, d3] }
  | _ => none }
def ReaderListsWrongFalsely : Prop := readerListsRow.holds Try.pinned (OpenSpec.ofChange readerListsWrong)

/-- 'centolaw09.ReaderWalks': WHATEVER THE INPUT: true; the input reads as it did. -/
def readerWalksSpec : ChangeSpec := { name := "readerWalks", fn := fun _ => fun
  | [d1, d2, d3, d4] => { results := [.lit (.bool true)], args := [d1, d2, d3, d4] }
  | _ => none }
def readerWalksRow : OpenClaim := { program := "ythokdjgpdonhgaa", sum := "29510e0dfec463940dc65219d0681306796e62243f07bf13fc8a17129d6de7a6", func := "cento/centolaw09.ReaderWalks", spec := "readerWalks", apart := false }
def ReaderWalksSaid : Prop := readerWalksRow.holds Try.pinned (OpenSpec.ofChange readerWalksSpec)

/-- ITS FALSE NEIGHBOUR: 'it returns false'. Refute it at one input. -/
def readerWalksWrong : ChangeSpec := { name := "readerWalks", fn := fun _ => fun
  | [d1, d2, d3, d4] => { results := [.lit (.bool false)], args := [d1, d2, d3, d4] }
  | _ => none }
def ReaderWalksWrongFalsely : Prop := readerWalksRow.holds Try.pinned (OpenSpec.ofChange readerWalksWrong)

/-- 'centolaw09.ReaderStays': WHATEVER THE INPUT: true; the input reads as it did. -/
def readerStaysSpec : ChangeSpec := { name := "readerStays", fn := fun _ => fun
  | [d1, d2] => { results := [.lit (.bool true)], args := [d1, d2] }
  | _ => none }
def readerStaysRow : OpenClaim := { program := "ythokdjgpdonhgaa", sum := "29510e0dfec463940dc65219d0681306796e62243f07bf13fc8a17129d6de7a6", func := "cento/centolaw09.ReaderStays", spec := "readerStays", apart := false }
def ReaderStaysSaid : Prop := readerStaysRow.holds Try.pinned (OpenSpec.ofChange readerStaysSpec)

/-- ITS FALSE NEIGHBOUR: 'it returns false'. Refute it at one input. -/
def readerStaysWrong : ChangeSpec := { name := "readerStays", fn := fun _ => fun
  | [d1, d2] => { results := [.lit (.bool false)], args := [d1, d2] }
  | _ => none }
def ReaderStaysWrongFalsely : Prop := readerStaysRow.holds Try.pinned (OpenSpec.ofChange readerStaysWrong)

/-- 'centolaw12.CanonEncodes': WHATEVER THE INPUT: true; the input reads as it did. -/
def canonEncodesSpec : ChangeSpec := { name := "canonEncodes", fn := fun _ => fun
  | [d1, d2] => { results := [.lit (.bool true)], args := [d1, d2] }
  | _ => none }
def canonEncodesRow : OpenClaim := { program := "ythokdjgpdonhgaa", sum := "29510e0dfec463940dc65219d0681306796e62243f07bf13fc8a17129d6de7a6", func := "cento/centolaw12.CanonEncodes", spec := "canonEncodes", recurses := true, loops := true, apart := false }
def CanonEncodesSaid : Prop := canonEncodesRow.holds Try.pinned (OpenSpec.ofChange canonEncodesSpec)

/-- ITS FALSE NEIGHBOUR: 'it returns false'. Refute it at one input. -/
def canonEncodesWrong : ChangeSpec := { name := "canonEncodes", fn := fun _ => fun
  | [d1, d2] => { results := [.lit (.bool false)], args := [d1, d2] }
  | _ => none }
def CanonEncodesWrongFalsely : Prop := canonEncodesRow.holds Try.pinned (OpenSpec.ofChange canonEncodesWrong)

/-- 'centolaw12.CanonOne': WHATEVER THE INPUT: true; the input reads as it did. -/
def canonOneSpec : ChangeSpec := { name := "canonOne", fn := fun _ => fun
  | [d1, d2] => { results := [.lit (.bool true)], args := [d1, d2] }
  | _ => none }
def canonOneRow : OpenClaim := { program := "ythokdjgpdonhgaa", sum := "29510e0dfec463940dc65219d0681306796e62243f07bf13fc8a17129d6de7a6", func := "cento/centolaw12.CanonOne", spec := "canonOne", recurses := true, loops := true, apart := false }
def CanonOneSaid : Prop := canonOneRow.holds Try.pinned (OpenSpec.ofChange canonOneSpec)

/-- ITS FALSE NEIGHBOUR: 'it returns false'. Refute it at one input. -/
def canonOneWrong : ChangeSpec := { name := "canonOne", fn := fun _ => fun
  | [d1, d2] => { results := [.lit (.bool false)], args := [d1, d2] }
  | _ => none }
def CanonOneWrongFalsely : Prop := canonOneRow.holds Try.pinned (OpenSpec.ofChange canonOneWrong)

/-- 'centolaw10.ValidChecks': WHATEVER THE INPUT: true; the input reads as it did. -/
def validChecksSpec : ChangeSpec := { name := "validChecks", fn := fun _ => fun
  | [d1, d2] => { results := [.lit (.bool true)], args := [d1, d2] }
  | _ => none }
def validChecksRow : OpenClaim := { program := "ythokdjgpdonhgaa", sum := "29510e0dfec463940dc65219d0681306796e62243f07bf13fc8a17129d6de7a6", func := "cento/centolaw10.ValidChecks", spec := "validChecks", recurses := true, apart := false }
def ValidChecksSaid : Prop := validChecksRow.holds Try.pinned (OpenSpec.ofChange validChecksSpec)

/-- ITS FALSE NEIGHBOUR: 'it returns false'. Refute it at one input. -/
def validChecksWrong : ChangeSpec := { name := "validChecks", fn := fun _ => fun
  | [d1, d2] => { results := [.lit (.bool false)], args := [d1, d2] }
  | _ => none }
def ValidChecksWrongFalsely : Prop := validChecksRow.holds Try.pinned (OpenSpec.ofChange validChecksWrong)

/-- 'centolaw10.ValidTrees': WHATEVER THE INPUT: true; the input reads as it did. -/
def validTreesSpec : ChangeSpec := { name := "validTrees", fn := fun _ => fun
  | [d1, d2] => { results := [.lit (.bool true)], args := [d1, d2] }
  | _ => none }
def validTreesRow : OpenClaim := { program := "ythokdjgpdonhgaa", sum := "29510e0dfec463940dc65219d0681306796e62243f07bf13fc8a17129d6de7a6", func := "cento/centolaw10.ValidTrees", spec := "validTrees", recurses := true, apart := false }
def ValidTreesSaid : Prop := validTreesRow.holds Try.pinned (OpenSpec.ofChange validTreesSpec)

/-- ITS FALSE NEIGHBOUR: 'it returns false'. Refute it at one input. -/
def validTreesWrong : ChangeSpec := { name := "validTrees", fn := fun _ => fun
  | [d1, d2] => { results := [.lit (.bool false)], args := [d1, d2] }
  | _ => none }
def ValidTreesWrongFalsely : Prop := validTreesRow.holds Try.pinned (OpenSpec.ofChange validTreesWrong)

/-- 'centolaw10.ValidMore': WHATEVER THE INPUT: true; the input reads as it did. -/
def validMoreSpec : ChangeSpec := { name := "validMore", fn := fun _ => fun
  | [d1, d2, d3, d4] => { results := [.lit (.bool true)], args := [d1, d2, d3, d4] }
  | _ => none }
def validMoreRow : OpenClaim := { program := "ythokdjgpdonhgaa", sum := "29510e0dfec463940dc65219d0681306796e62243f07bf13fc8a17129d6de7a6", func := "cento/centolaw10.ValidMore", spec := "validMore", recurses := true, apart := false }
def ValidMoreSaid : Prop := validMoreRow.holds Try.pinned (OpenSpec.ofChange validMoreSpec)

/-- ITS FALSE NEIGHBOUR: 'it returns false'. Refute it at one input. -/
def validMoreWrong : ChangeSpec := { name := "validMore", fn := fun _ => fun
  | [d1, d2, d3, d4] => { results := [.lit (.bool false)], args := [d1, d2, d3, d4] }
  | _ => none }
def ValidMoreWrongFalsely : Prop := validMoreRow.holds Try.pinned (OpenSpec.ofChange validMoreWrong)

/-- 'centolaw10.ValidLimits': WHATEVER THE INPUT: true; the input reads as it did. -/
def validLimitsSpec : ChangeSpec := { name := "validLimits", fn := fun _ => fun
  | [d] => { results := [.lit (.bool true)], args := [d] }
  | _ => none }
def validLimitsRow : OpenClaim := { program := "ythokdjgpdonhgaa", sum := "29510e0dfec463940dc65219d0681306796e62243f07bf13fc8a17129d6de7a6", func := "cento/centolaw10.ValidLimits", spec := "validLimits", recurses := true, apart := false }
def ValidLimitsSaid : Prop := validLimitsRow.holds Try.pinned (OpenSpec.ofChange validLimitsSpec)

/-- ITS FALSE NEIGHBOUR: 'it returns false'. Refute it at one input. -/
def validLimitsWrong : ChangeSpec := { name := "validLimits", fn := fun _ => fun
  | [d] => { results := [.lit (.bool false)], args := [d] }
  | _ => none }
def ValidLimitsWrongFalsely : Prop := validLimitsRow.holds Try.pinned (OpenSpec.ofChange validLimitsWrong)

/-- 'centolaw10.ValidRound': WHATEVER THE INPUT: true; the input reads as it did. -/
def validRoundSpec : ChangeSpec := { name := "validRound", fn := fun _ => fun
  | [d1, d2] => { results := [.lit (.bool true)], args := [d1, d2] }
  | _ => none }
def validRoundRow : OpenClaim := { program := "ythokdjgpdonhgaa", sum := "29510e0dfec463940dc65219d0681306796e62243f07bf13fc8a17129d6de7a6", func := "cento/centolaw10.ValidRound", spec := "validRound", recurses := true, apart := false }
def ValidRoundSaid : Prop := validRoundRow.holds Try.pinned (OpenSpec.ofChange validRoundSpec)

/-- ITS FALSE NEIGHBOUR: 'it returns false'. Refute it at one input. -/
def validRoundWrong : ChangeSpec := { name := "validRound", fn := fun _ => fun
  | [d1, d2] => { results := [.lit (.bool false)], args := [d1, d2] }
  | _ => none }
def ValidRoundWrongFalsely : Prop := validRoundRow.holds Try.pinned (OpenSpec.ofChange validRoundWrong)

/-- 'centolaw11.UnfoldMakes': WHATEVER THE INPUT: true; the input reads as it did. -/
def unfoldMakesSpec : ChangeSpec := { name := "unfoldMakes", fn := fun _ => fun
  | [d1, d2] => { results := [.lit (.bool true)], args := [d1, d2] }
  | _ => none }
def unfoldMakesRow : OpenClaim := { program := "ythokdjgpdonhgaa", sum := "29510e0dfec463940dc65219d0681306796e62243f07bf13fc8a17129d6de7a6", func := "cento/centolaw11.UnfoldMakes", spec := "unfoldMakes", recurses := true, apart := false }
def UnfoldMakesSaid : Prop := unfoldMakesRow.holds Try.pinned (OpenSpec.ofChange unfoldMakesSpec)

/-- ITS FALSE NEIGHBOUR: 'it returns false'. Refute it at one input. -/
def unfoldMakesWrong : ChangeSpec := { name := "unfoldMakes", fn := fun _ => fun
  | [d1, d2] => { results := [.lit (.bool false)], args := [d1, d2] }
  | _ => none }
def UnfoldMakesWrongFalsely : Prop := unfoldMakesRow.holds Try.pinned (OpenSpec.ofChange unfoldMakesWrong)

/-- 'centolaw11.UnfoldValues': WHATEVER THE INPUT: true; the input reads as it did. -/
def unfoldValuesSpec : ChangeSpec := { name := "unfoldValues", fn := fun _ => fun
  | [d1, d2] => { results := [.lit (.bool true)], args := [d1, d2] }
  | _ => none }
def unfoldValuesRow : OpenClaim := { program := "ythokdjgpdonhgaa", sum := "29510e0dfec463940dc65219d0681306796e62243f07bf13fc8a17129d6de7a6", func := "cento/centolaw11.UnfoldValues", spec := "unfoldValues", recurses := true, apart := false }
def UnfoldValuesSaid : Prop := unfoldValuesRow.holds Try.pinned (OpenSpec.ofChange unfoldValuesSpec)

/-- ITS FALSE NEIGHBOUR: 'it returns false'. Refute it at one input. -/
def unfoldValuesWrong : ChangeSpec := { name := "unfoldValues", fn := fun _ => fun
  | [d1, d2] => { results := [.lit (.bool false)], args := [d1, d2] }
  | _ => none }
def UnfoldValuesWrongFalsely : Prop := unfoldValuesRow.holds Try.pinned (OpenSpec.ofChange unfoldValuesWrong)

/-- 'centolaw11.UnfoldMoves': WHATEVER THE INPUT: true; the input reads as it did. -/
def unfoldMovesSpec : ChangeSpec := { name := "unfoldMoves", fn := fun _ => fun
  | [d1, d2, d3] => { results := [.lit (.bool true)], args := [d1, d2, d3] }
  | _ => none }
def unfoldMovesRow : OpenClaim := { program := "ythokdjgpdonhgaa", sum := "29510e0dfec463940dc65219d0681306796e62243f07bf13fc8a17129d6de7a6", func := "cento/centolaw11.UnfoldMoves", spec := "unfoldMoves", recurses := true, apart := false }
def UnfoldMovesSaid : Prop := unfoldMovesRow.holds Try.pinned (OpenSpec.ofChange unfoldMovesSpec)

/-- ITS FALSE NEIGHBOUR: 'it returns false'. Refute it at one input. -/
def unfoldMovesWrong : ChangeSpec := { name := "unfoldMoves", fn := fun _ => fun
  | [d1, d2, d3] => { results := [.lit (.bool false)], args := [d1, d2, d3] }
  | _ => none }
def UnfoldMovesWrongFalsely : Prop := unfoldMovesRow.holds Try.pinned (OpenSpec.ofChange unfoldMovesWrong)

/-- 'centolaw12.CanonDecodes': WHATEVER THE INPUT: true; the input reads as it did. -/
def canonDecodesSpec : ChangeSpec := { name := "canonDecodes", fn := fun _ => fun
  | [d1, d2] => { results := [.lit (.bool true)], args := [d1, d2] }
  | _ => none }
def canonDecodesRow : OpenClaim := { program := "ythokdjgpdonhgaa", sum := "29510e0dfec463940dc65219d0681306796e62243f07bf13fc8a17129d6de7a6", func := "cento/centolaw12.CanonDecodes", spec := "canonDecodes", recurses := true, apart := false }
def CanonDecodesSaid : Prop := canonDecodesRow.holds Try.pinned (OpenSpec.ofChange canonDecodesSpec)

/-- ITS FALSE NEIGHBOUR: 'it returns false'. Refute it at one input. -/
def canonDecodesWrong : ChangeSpec := { name := "canonDecodes", fn := fun _ => fun
  | [d1, d2] => { results := [.lit (.bool false)], args := [d1, d2] }
  | _ => none }
def CanonDecodesWrongFalsely : Prop := canonDecodesRow.holds Try.pinned (OpenSpec.ofChange canonDecodesWrong)

/-- 'centolaw12.CanonBack': WHATEVER THE INPUT: true; the input reads as it did. -/
def canonBackSpec : ChangeSpec := { name := "canonBack", fn := fun _ => fun
  | [d] => { results := [.lit (.bool true)], args := [d] }
  | _ => none }
def canonBackRow : OpenClaim := { program := "ythokdjgpdonhgaa", sum := "29510e0dfec463940dc65219d0681306796e62243f07bf13fc8a17129d6de7a6", func := "cento/centolaw12.CanonBack", spec := "canonBack", recurses := true, loops := true, apart := false }
def CanonBackSaid : Prop := canonBackRow.holds Try.pinned (OpenSpec.ofChange canonBackSpec)

/-- ITS FALSE NEIGHBOUR: 'it returns false'. Refute it at one input. -/
def canonBackWrong : ChangeSpec := { name := "canonBack", fn := fun _ => fun
  | [d] => { results := [.lit (.bool false)], args := [d] }
  | _ => none }
def CanonBackWrongFalsely : Prop := canonBackRow.holds Try.pinned (OpenSpec.ofChange canonBackWrong)

/- THE SECOND FORM. 'bulk': how many values and letters a reading holds, each counted each time it is reached (what is shared counts as often as it is met; a slice's spare places count too). A statement '..UptoSaid' is the law's where the arguments, and the package variables that the reading takes, are together of bulk at most 1048576: NARROWER than '..Said'. Prove '..Said' where nothing that the law and all that it calls make is longer than what came in: it says more and counts as full. Else prove '..UptoSaid'. A law counts once. -/
mutual
def uptoBulk {H : Type} : DataW H → Nat
  | .lit (.string bytes) => bytes.length + 1
  | .lit _ => 1
  | .nil => 1
  | .ptr d => uptoBulk d + 1
  | .slice elems spare => uptoBulkAll elems + uptoBulkAll spare + 1
  | .agg parts => uptoBulkAll parts + 1
  | .iface _ d => uptoBulk d + 1
  | .map entries => uptoBulkEntries entries + 1
  | .held _ => 1
def uptoBulkAll {H : Type} : List (DataW H) → Nat
  | [] => 0
  | d :: r => uptoBulk d + uptoBulkAll r
def uptoBulkEntries {H : Type} : List (Lit × DataW H) → Nat
  | [] => 0
  | x :: r => uptoBulkEntry x + uptoBulkEntries r
def uptoBulkEntry {H : Type} : Lit × DataW H → Nat
  | (.string bytes, d) => bytes.length + uptoBulk d + 1
  | (_, d) => uptoBulk d + 1
 end
def uptoSmall : (H : Type) → List (DataW H) → Bool := fun _ ds => decide (uptoBulkAll ds ≤ 1048576)
def OpenSpec.upto (s : _root_.Go.ChangeSpec) : _root_.Go.OpenSpec := { _root_.Go.OpenSpec.ofChange s with cond := some uptoSmall }

/-- 'centolaw09.ReaderLists', WHERE WHAT IT READS IS OF BULK AT MOST 1048576: true; the input reads as it did. -/
def readerListsUptoRow : OpenClaim := { program := "ythokdjgpdonhgaa", sum := "29510e0dfec463940dc65219d0681306796e62243f07bf13fc8a17129d6de7a6", func := "cento/centolaw09.ReaderLists", spec := "readerLists", apart := false, narrowed := true }
def ReaderListsUptoSaid : Prop := readerListsUptoRow.holds Try.pinned (OpenSpec.upto readerListsSpec)

/-- 'centolaw09.ReaderWalks', WHERE WHAT IT READS IS OF BULK AT MOST 1048576: true; the input reads as it did. -/
def readerWalksUptoRow : OpenClaim := { program := "ythokdjgpdonhgaa", sum := "29510e0dfec463940dc65219d0681306796e62243f07bf13fc8a17129d6de7a6", func := "cento/centolaw09.ReaderWalks", spec := "readerWalks", apart := false, narrowed := true }
def ReaderWalksUptoSaid : Prop := readerWalksUptoRow.holds Try.pinned (OpenSpec.upto readerWalksSpec)

/-- 'centolaw09.ReaderStays', WHERE WHAT IT READS IS OF BULK AT MOST 1048576: true; the input reads as it did. -/
def readerStaysUptoRow : OpenClaim := { program := "ythokdjgpdonhgaa", sum := "29510e0dfec463940dc65219d0681306796e62243f07bf13fc8a17129d6de7a6", func := "cento/centolaw09.ReaderStays", spec := "readerStays", apart := false, narrowed := true }
def ReaderStaysUptoSaid : Prop := readerStaysUptoRow.holds Try.pinned (OpenSpec.upto readerStaysSpec)

/-- 'centolaw12.CanonEncodes', WHERE WHAT IT READS IS OF BULK AT MOST 1048576: true; the input reads as it did. -/
def canonEncodesUptoRow : OpenClaim := { program := "ythokdjgpdonhgaa", sum := "29510e0dfec463940dc65219d0681306796e62243f07bf13fc8a17129d6de7a6", func := "cento/centolaw12.CanonEncodes", spec := "canonEncodes", recurses := true, loops := true, apart := false, narrowed := true }
def CanonEncodesUptoSaid : Prop := canonEncodesUptoRow.holds Try.pinned (OpenSpec.upto canonEncodesSpec)

/-- 'centolaw12.CanonOne', WHERE WHAT IT READS IS OF BULK AT MOST 1048576: true; the input reads as it did. -/
def canonOneUptoRow : OpenClaim := { program := "ythokdjgpdonhgaa", sum := "29510e0dfec463940dc65219d0681306796e62243f07bf13fc8a17129d6de7a6", func := "cento/centolaw12.CanonOne", spec := "canonOne", recurses := true, loops := true, apart := false, narrowed := true }
def CanonOneUptoSaid : Prop := canonOneUptoRow.holds Try.pinned (OpenSpec.upto canonOneSpec)

/-- 'centolaw10.ValidChecks', WHERE WHAT IT READS IS OF BULK AT MOST 1048576: true; the input reads as it did. -/
def validChecksUptoRow : OpenClaim := { program := "ythokdjgpdonhgaa", sum := "29510e0dfec463940dc65219d0681306796e62243f07bf13fc8a17129d6de7a6", func := "cento/centolaw10.ValidChecks", spec := "validChecks", recurses := true, apart := false, narrowed := true }
def ValidChecksUptoSaid : Prop := validChecksUptoRow.holds Try.pinned (OpenSpec.upto validChecksSpec)

/-- 'centolaw10.ValidTrees', WHERE WHAT IT READS IS OF BULK AT MOST 1048576: true; the input reads as it did. -/
def validTreesUptoRow : OpenClaim := { program := "ythokdjgpdonhgaa", sum := "29510e0dfec463940dc65219d0681306796e62243f07bf13fc8a17129d6de7a6", func := "cento/centolaw10.ValidTrees", spec := "validTrees", recurses := true, apart := false, narrowed := true }
def ValidTreesUptoSaid : Prop := validTreesUptoRow.holds Try.pinned (OpenSpec.upto validTreesSpec)

/-- 'centolaw10.ValidMore', WHERE WHAT IT READS IS OF BULK AT MOST 1048576: true; the input reads as it did. -/
def validMoreUptoRow : OpenClaim := { program := "ythokdjgpdonhgaa", sum := "29510e0dfec463940dc65219d0681306796e62243f07bf13fc8a17129d6de7a6", func := "cento/centolaw10.ValidMore", spec := "validMore", recurses := true, apart := false, narrowed := true }
def ValidMoreUptoSaid : Prop := validMoreUptoRow.holds Try.pinned (OpenSpec.upto validMoreSpec)

/-- 'centolaw10.ValidLimits', WHERE WHAT IT READS IS OF BULK AT MOST 1048576: true; the input reads as it did. -/
def validLimitsUptoRow : OpenClaim := { program := "ythokdjgpdonhgaa", sum := "29510e0dfec463940dc65219d0681306796e62243f07bf13fc8a17129d6de7a6", func := "cento/centolaw10.ValidLimits", spec := "validLimits", recurses := true, apart := false, narrowed := true }
def ValidLimitsUptoSaid : Prop := validLimitsUptoRow.holds Try.pinned (OpenSpec.upto validLimitsSpec)

/-- 'centolaw10.ValidRound', WHERE WHAT IT READS IS OF BULK AT MOST 1048576: true; the input reads as it did. -/
def validRoundUptoRow : OpenClaim := { program := "ythokdjgpdonhgaa", sum := "29510e0dfec463940dc65219d0681306796e62243f07bf13fc8a17129d6de7a6", func := "cento/centolaw10.ValidRound", spec := "validRound", recurses := true, apart := false, narrowed := true }
def ValidRoundUptoSaid : Prop := validRoundUptoRow.holds Try.pinned (OpenSpec.upto validRoundSpec)

/-- 'centolaw11.UnfoldMakes', WHERE WHAT IT READS IS OF BULK AT MOST 1048576: true; the input reads as it did. -/
def unfoldMakesUptoRow : OpenClaim := { program := "ythokdjgpdonhgaa", sum := "29510e0dfec463940dc65219d0681306796e62243f07bf13fc8a17129d6de7a6", func := "cento/centolaw11.UnfoldMakes", spec := "unfoldMakes", recurses := true, apart := false, narrowed := true }
def UnfoldMakesUptoSaid : Prop := unfoldMakesUptoRow.holds Try.pinned (OpenSpec.upto unfoldMakesSpec)

/-- 'centolaw11.UnfoldValues', WHERE WHAT IT READS IS OF BULK AT MOST 1048576: true; the input reads as it did. -/
def unfoldValuesUptoRow : OpenClaim := { program := "ythokdjgpdonhgaa", sum := "29510e0dfec463940dc65219d0681306796e62243f07bf13fc8a17129d6de7a6", func := "cento/centolaw11.UnfoldValues", spec := "unfoldValues", recurses := true, apart := false, narrowed := true }
def UnfoldValuesUptoSaid : Prop := unfoldValuesUptoRow.holds Try.pinned (OpenSpec.upto unfoldValuesSpec)

/-- 'centolaw11.UnfoldMoves', WHERE WHAT IT READS IS OF BULK AT MOST 1048576: true; the input reads as it did. -/
def unfoldMovesUptoRow : OpenClaim := { program := "ythokdjgpdonhgaa", sum := "29510e0dfec463940dc65219d0681306796e62243f07bf13fc8a17129d6de7a6", func := "cento/centolaw11.UnfoldMoves", spec := "unfoldMoves", recurses := true, apart := false, narrowed := true }
def UnfoldMovesUptoSaid : Prop := unfoldMovesUptoRow.holds Try.pinned (OpenSpec.upto unfoldMovesSpec)

/-- 'centolaw12.CanonDecodes', WHERE WHAT IT READS IS OF BULK AT MOST 1048576: true; the input reads as it did. -/
def canonDecodesUptoRow : OpenClaim := { program := "ythokdjgpdonhgaa", sum := "29510e0dfec463940dc65219d0681306796e62243f07bf13fc8a17129d6de7a6", func := "cento/centolaw12.CanonDecodes", spec := "canonDecodes", recurses := true, apart := false, narrowed := true }
def CanonDecodesUptoSaid : Prop := canonDecodesUptoRow.holds Try.pinned (OpenSpec.upto canonDecodesSpec)

/-- 'centolaw12.CanonBack', WHERE WHAT IT READS IS OF BULK AT MOST 1048576: true; the input reads as it did. -/
def canonBackUptoRow : OpenClaim := { program := "ythokdjgpdonhgaa", sum := "29510e0dfec463940dc65219d0681306796e62243f07bf13fc8a17129d6de7a6", func := "cento/centolaw12.CanonBack", spec := "canonBack", recurses := true, loops := true, apart := false, narrowed := true }
def CanonBackUptoSaid : Prop := canonBackUptoRow.holds Try.pinned (OpenSpec.upto canonBackSpec)

end Rows
end Go.Proofs.Ythokdjgpdonhgaa
