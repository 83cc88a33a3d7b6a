/-
  NARROWER THAN 'FOR EVERY INPUT', by the rows' own cells (each row's printed sentence says how): FocusWraps: loops · ComposeMakes: loops · FocusDoes: loops · FocusLeaves: loops · RebaseSquare: loops · RebaseTurned: loops · RebaseSelf: loops · HistoryBack: loops · SplitDoes: loops · ComposeSome: loops.
  DERIVED. THE GIVEN ROWS OF THIS SEAT. 11 by the template 'for every input the law returns true; each argument reads behind the call as it read before'; 0 by the template 'total and deterministic' (their statements: YtpjenobkibfpcaaTotals.lean).
  GIVEN WITH THE SEED: the statements are not yours to turn. If you find one false, say at which input.
  Laid BY PROGRAM, IN A SANDBOX (cutbox-rows.mjs): the forced cells as the released guide's own fill.sh prints them over the translation d0f51f93a4052787… (all of the seat's roots in one cut). By AI agents, Wed Nov 11 2026. No macro, syntax, notation, axiom, sorry.
-/
import Derived.Test.YtpjenobkibfpcaaChecked
import GoSem.Claim
import GoSem.ClaimJoined
import GoSem.ClaimMapViews
import Derived.JoinedTies
import Derived.KernelRfl
namespace Go.Proofs.Ytpjenobkibfpcaa
/- THE CELL 'sum', in the pinned program and in every row, IS THE sha256 OF THE DUMP (.gsa) THAT YtpjenobkibfpcaaProg.lean LOADS. Nothing in Lean hashes anything: it is a label: what it is worth is what the hold of that sum in a sandbox is worth. -/
noncomputable def Try.pinned : Pinned := { name := "ytpjenobkibfpcaa", sum := "d0f51f93a4052787f8e08aed7b1a8412f152dbc2485032b914ed74cc4f81a3cb", checked := Try.checked }
namespace Rows
def none {H : Type} : Left H := { results := [], args := [] }

/-- 'centolaw40.FocusWraps': WHATEVER THE INPUT: true; the input reads as it did. -/
def focusWrapsSpec : ChangeSpec := { name := "focusWraps", fn := fun _ => fun
  | [d1, d2, d3] => { results := [.lit (.bool true)], args := [d1, d2, d3] }
  | _ => none }
def focusWrapsRow : OpenClaim := { program := "ytpjenobkibfpcaa", sum := "d0f51f93a4052787f8e08aed7b1a8412f152dbc2485032b914ed74cc4f81a3cb", func := "cento/centolaw40.FocusWraps", spec := "focusWraps", unfollowed := true, recurses := true, loops := true, apart := false }
def FocusWrapsSaid : Prop := focusWrapsRow.holds Try.pinned (OpenSpec.ofChange focusWrapsSpec)

/-- ITS FALSE NEIGHBOUR: 'it returns false'. Refute it at one input. -/
def focusWrapsWrong : ChangeSpec := { name := "focusWraps", fn := fun _ => fun
  | [d1, d2, d3] => { results := [.lit (.bool false)], args := [d1, d2, d3] }
  | _ => none }
def FocusWrapsWrongFalsely : Prop := focusWrapsRow.holds Try.pinned (OpenSpec.ofChange focusWrapsWrong)

/-- 'centolaw25.ComposeMakes': WHATEVER THE INPUT: true; the input reads as it did. -/
def composeMakesSpec : ChangeSpec := { name := "composeMakes", fn := fun _ => fun
  | [d1, d2] => { results := [.lit (.bool true)], args := [d1, d2] }
  | _ => none }
def composeMakesRow : OpenClaim := { program := "ytpjenobkibfpcaa", sum := "d0f51f93a4052787f8e08aed7b1a8412f152dbc2485032b914ed74cc4f81a3cb", func := "cento/centolaw25.ComposeMakes", spec := "composeMakes", unfollowed := true, recurses := true, loops := true, apart := false }
def ComposeMakesSaid : Prop := composeMakesRow.holds Try.pinned (OpenSpec.ofChange composeMakesSpec)

/-- ITS FALSE NEIGHBOUR: 'it returns false'. Refute it at one input. -/
def composeMakesWrong : ChangeSpec := { name := "composeMakes", fn := fun _ => fun
  | [d1, d2] => { results := [.lit (.bool false)], args := [d1, d2] }
  | _ => none }
def ComposeMakesWrongFalsely : Prop := composeMakesRow.holds Try.pinned (OpenSpec.ofChange composeMakesWrong)

/-- 'centolaw25.ComposeWords': WHATEVER THE INPUT: true; the input reads as it did. -/
def composeWordsSpec : ChangeSpec := { name := "composeWords", fn := fun _ => fun
  | [d1, d2] => { results := [.lit (.bool true)], args := [d1, d2] }
  | _ => none }
def composeWordsRow : OpenClaim := { program := "ytpjenobkibfpcaa", sum := "d0f51f93a4052787f8e08aed7b1a8412f152dbc2485032b914ed74cc4f81a3cb", func := "cento/centolaw25.ComposeWords", spec := "composeWords", unfollowed := true, recurses := true, apart := false }
def ComposeWordsSaid : Prop := composeWordsRow.holds Try.pinned (OpenSpec.ofChange composeWordsSpec)

/-- ITS FALSE NEIGHBOUR: 'it returns false'. Refute it at one input. -/
def composeWordsWrong : ChangeSpec := { name := "composeWords", fn := fun _ => fun
  | [d1, d2] => { results := [.lit (.bool false)], args := [d1, d2] }
  | _ => none }
def ComposeWordsWrongFalsely : Prop := composeWordsRow.holds Try.pinned (OpenSpec.ofChange composeWordsWrong)

/-- 'centolaw40.FocusDoes': WHATEVER THE INPUT: true; the input reads as it did. -/
def focusDoesSpec : ChangeSpec := { name := "focusDoes", fn := fun _ => fun
  | [d1, d2, d3] => { results := [.lit (.bool true)], args := [d1, d2, d3] }
  | _ => none }
def focusDoesRow : OpenClaim := { program := "ytpjenobkibfpcaa", sum := "d0f51f93a4052787f8e08aed7b1a8412f152dbc2485032b914ed74cc4f81a3cb", func := "cento/centolaw40.FocusDoes", spec := "focusDoes", unfollowed := true, recurses := true, loops := true, apart := false }
def FocusDoesSaid : Prop := focusDoesRow.holds Try.pinned (OpenSpec.ofChange focusDoesSpec)

/-- ITS FALSE NEIGHBOUR: 'it returns false'. Refute it at one input. -/
def focusDoesWrong : ChangeSpec := { name := "focusDoes", fn := fun _ => fun
  | [d1, d2, d3] => { results := [.lit (.bool false)], args := [d1, d2, d3] }
  | _ => none }
def FocusDoesWrongFalsely : Prop := focusDoesRow.holds Try.pinned (OpenSpec.ofChange focusDoesWrong)

/-- 'centolaw40.FocusLeaves': WHATEVER THE INPUT: true; the input reads as it did. -/
def focusLeavesSpec : ChangeSpec := { name := "focusLeaves", fn := fun _ => fun
  | [d1, d2, d3, d4] => { results := [.lit (.bool true)], args := [d1, d2, d3, d4] }
  | _ => none }
def focusLeavesRow : OpenClaim := { program := "ytpjenobkibfpcaa", sum := "d0f51f93a4052787f8e08aed7b1a8412f152dbc2485032b914ed74cc4f81a3cb", func := "cento/centolaw40.FocusLeaves", spec := "focusLeaves", unfollowed := true, recurses := true, loops := true, apart := false }
def FocusLeavesSaid : Prop := focusLeavesRow.holds Try.pinned (OpenSpec.ofChange focusLeavesSpec)

/-- ITS FALSE NEIGHBOUR: 'it returns false'. Refute it at one input. -/
def focusLeavesWrong : ChangeSpec := { name := "focusLeaves", fn := fun _ => fun
  | [d1, d2, d3, d4] => { results := [.lit (.bool false)], args := [d1, d2, d3, d4] }
  | _ => none }
def FocusLeavesWrongFalsely : Prop := focusLeavesRow.holds Try.pinned (OpenSpec.ofChange focusLeavesWrong)

/-- 'centolaw30.RebaseSquare': WHATEVER THE INPUT: true; the input reads as it did. -/
def rebaseSquareSpec : ChangeSpec := { name := "rebaseSquare", fn := fun _ => fun
  | [d1, d2, d3] => { results := [.lit (.bool true)], args := [d1, d2, d3] }
  | _ => none }
def rebaseSquareRow : OpenClaim := { program := "ytpjenobkibfpcaa", sum := "d0f51f93a4052787f8e08aed7b1a8412f152dbc2485032b914ed74cc4f81a3cb", func := "cento/centolaw30.RebaseSquare", spec := "rebaseSquare", unfollowed := true, recurses := true, loops := true, apart := false }
def RebaseSquareSaid : Prop := rebaseSquareRow.holds Try.pinned (OpenSpec.ofChange rebaseSquareSpec)

/-- ITS FALSE NEIGHBOUR: 'it returns false'. Refute it at one input. -/
def rebaseSquareWrong : ChangeSpec := { name := "rebaseSquare", fn := fun _ => fun
  | [d1, d2, d3] => { results := [.lit (.bool false)], args := [d1, d2, d3] }
  | _ => none }
def RebaseSquareWrongFalsely : Prop := rebaseSquareRow.holds Try.pinned (OpenSpec.ofChange rebaseSquareWrong)

/-- 'centolaw30.RebaseTurned': WHATEVER THE INPUT: true; the input reads as it did. -/
def rebaseTurnedSpec : ChangeSpec := { name := "rebaseTurned", fn := fun _ => fun
  | [d1, d2] => { results := [.lit (.bool true)], args := [d1, d2] }
  | _ => none }
def rebaseTurnedRow : OpenClaim := { program := "ytpjenobkibfpcaa", sum := "d0f51f93a4052787f8e08aed7b1a8412f152dbc2485032b914ed74cc4f81a3cb", func := "cento/centolaw30.RebaseTurned", spec := "rebaseTurned", unfollowed := true, recurses := true, loops := true, apart := false }
def RebaseTurnedSaid : Prop := rebaseTurnedRow.holds Try.pinned (OpenSpec.ofChange rebaseTurnedSpec)

/-- ITS FALSE NEIGHBOUR: 'it returns false'. Refute it at one input. -/
def rebaseTurnedWrong : ChangeSpec := { name := "rebaseTurned", fn := fun _ => fun
  | [d1, d2] => { results := [.lit (.bool false)], args := [d1, d2] }
  | _ => none }
def RebaseTurnedWrongFalsely : Prop := rebaseTurnedRow.holds Try.pinned (OpenSpec.ofChange rebaseTurnedWrong)

/-- 'centolaw30.RebaseSelf': WHATEVER THE INPUT: true; the input reads as it did. -/
def rebaseSelfSpec : ChangeSpec := { name := "rebaseSelf", fn := fun _ => fun
  | [d] => { results := [.lit (.bool true)], args := [d] }
  | _ => none }
def rebaseSelfRow : OpenClaim := { program := "ytpjenobkibfpcaa", sum := "d0f51f93a4052787f8e08aed7b1a8412f152dbc2485032b914ed74cc4f81a3cb", func := "cento/centolaw30.RebaseSelf", spec := "rebaseSelf", unfollowed := true, recurses := true, loops := true, apart := false }
def RebaseSelfSaid : Prop := rebaseSelfRow.holds Try.pinned (OpenSpec.ofChange rebaseSelfSpec)

/-- ITS FALSE NEIGHBOUR: 'it returns false'. Refute it at one input. -/
def rebaseSelfWrong : ChangeSpec := { name := "rebaseSelf", fn := fun _ => fun
  | [d] => { results := [.lit (.bool false)], args := [d] }
  | _ => none }
def RebaseSelfWrongFalsely : Prop := rebaseSelfRow.holds Try.pinned (OpenSpec.ofChange rebaseSelfWrong)

/-- 'centolaw42.HistoryBack': WHATEVER THE INPUT: true; the input reads as it did. -/
def historyBackSpec : ChangeSpec := { name := "historyBack", fn := fun _ => fun
  | [d1, d2] => { results := [.lit (.bool true)], args := [d1, d2] }
  | _ => none }
def historyBackRow : OpenClaim := { program := "ytpjenobkibfpcaa", sum := "d0f51f93a4052787f8e08aed7b1a8412f152dbc2485032b914ed74cc4f81a3cb", func := "cento/centolaw42.HistoryBack", spec := "historyBack", unfollowed := true, recurses := true, loops := true, apart := false }
def HistoryBackSaid : Prop := historyBackRow.holds Try.pinned (OpenSpec.ofChange historyBackSpec)

/-- ITS FALSE NEIGHBOUR: 'it returns false'. Refute it at one input. -/
def historyBackWrong : ChangeSpec := { name := "historyBack", fn := fun _ => fun
  | [d1, d2] => { results := [.lit (.bool false)], args := [d1, d2] }
  | _ => none }
def HistoryBackWrongFalsely : Prop := historyBackRow.holds Try.pinned (OpenSpec.ofChange historyBackWrong)

/-- 'centolaw41.SplitDoes': WHATEVER THE INPUT: true; the input reads as it did. -/
def splitDoesSpec : ChangeSpec := { name := "splitDoes", fn := fun _ => fun
  | [d1, d2] => { results := [.lit (.bool true)], args := [d1, d2] }
  | _ => none }
def splitDoesRow : OpenClaim := { program := "ytpjenobkibfpcaa", sum := "d0f51f93a4052787f8e08aed7b1a8412f152dbc2485032b914ed74cc4f81a3cb", func := "cento/centolaw41.SplitDoes", spec := "splitDoes", unfollowed := true, recurses := true, loops := true, apart := false }
def SplitDoesSaid : Prop := splitDoesRow.holds Try.pinned (OpenSpec.ofChange splitDoesSpec)

/-- ITS FALSE NEIGHBOUR: 'it returns false'. Refute it at one input. -/
def splitDoesWrong : ChangeSpec := { name := "splitDoes", fn := fun _ => fun
  | [d1, d2] => { results := [.lit (.bool false)], args := [d1, d2] }
  | _ => none }
def SplitDoesWrongFalsely : Prop := splitDoesRow.holds Try.pinned (OpenSpec.ofChange splitDoesWrong)

/-- 'centolaw25.ComposeSome': WHATEVER THE INPUT: true; the input reads as it did. -/
def composeSomeSpec : ChangeSpec := { name := "composeSome", fn := fun _ => fun
  | [d1, d2] => { results := [.lit (.bool true)], args := [d1, d2] }
  | _ => none }
def composeSomeRow : OpenClaim := { program := "ytpjenobkibfpcaa", sum := "d0f51f93a4052787f8e08aed7b1a8412f152dbc2485032b914ed74cc4f81a3cb", func := "cento/centolaw25.ComposeSome", spec := "composeSome", unfollowed := true, recurses := true, loops := true, apart := false }
def ComposeSomeSaid : Prop := composeSomeRow.holds Try.pinned (OpenSpec.ofChange composeSomeSpec)

/-- ITS FALSE NEIGHBOUR: 'it returns false'. Refute it at one input. -/
def composeSomeWrong : ChangeSpec := { name := "composeSome", fn := fun _ => fun
  | [d1, d2] => { results := [.lit (.bool false)], args := [d1, d2] }
  | _ => none }
def ComposeSomeWrongFalsely : Prop := composeSomeRow.holds Try.pinned (OpenSpec.ofChange composeSomeWrong)

/- THE SECOND FORM. 'bulk': how many values and letters a reading holds, each counted each time it is reached (what is shared counts as often as it is met; a slice's spare places count too). A statement '..UptoSaid' is the law's where the arguments, and the package variables that the reading takes, are together of bulk at most 1048576: NARROWER than '..Said'. Prove '..Said' where nothing that the law and all that it calls make is longer than what came in: it says more and counts as full. Else prove '..UptoSaid'. A law counts once. -/
mutual
def uptoBulk {H : Type} : DataW H → Nat
  | .lit (.string bytes) => bytes.length + 1
  | .lit _ => 1
  | .nil => 1
  | .ptr d => uptoBulk d + 1
  | .slice elems spare => uptoBulkAll elems + uptoBulkAll spare + 1
  | .agg parts => uptoBulkAll parts + 1
  | .iface _ d => uptoBulk d + 1
  | .map entries => uptoBulkEntries entries + 1
  | .held _ => 1
def uptoBulkAll {H : Type} : List (DataW H) → Nat
  | [] => 0
  | d :: r => uptoBulk d + uptoBulkAll r
def uptoBulkEntries {H : Type} : List (Lit × DataW H) → Nat
  | [] => 0
  | x :: r => uptoBulkEntry x + uptoBulkEntries r
def uptoBulkEntry {H : Type} : Lit × DataW H → Nat
  | (.string bytes, d) => bytes.length + uptoBulk d + 1
  | (_, d) => uptoBulk d + 1
 end
def uptoSmall : (H : Type) → List (DataW H) → Bool := fun _ ds => decide (uptoBulkAll ds ≤ 1048576)
def OpenSpec.upto (s : _root_.Go.ChangeSpec) : _root_.Go.OpenSpec := { _root_.Go.OpenSpec.ofChange s with cond := some uptoSmall }

/-- 'centolaw40.FocusWraps', WHERE WHAT IT READS IS OF BULK AT MOST 1048576: true; the input reads as it did. -/
def focusWrapsUptoRow : OpenClaim := { program := "ytpjenobkibfpcaa", sum := "d0f51f93a4052787f8e08aed7b1a8412f152dbc2485032b914ed74cc4f81a3cb", func := "cento/centolaw40.FocusWraps", spec := "focusWraps", unfollowed := true, recurses := true, loops := true, apart := false, narrowed := true }
def FocusWrapsUptoSaid : Prop := focusWrapsUptoRow.holds Try.pinned (OpenSpec.upto focusWrapsSpec)

/-- 'centolaw25.ComposeMakes', WHERE WHAT IT READS IS OF BULK AT MOST 1048576: true; the input reads as it did. -/
def composeMakesUptoRow : OpenClaim := { program := "ytpjenobkibfpcaa", sum := "d0f51f93a4052787f8e08aed7b1a8412f152dbc2485032b914ed74cc4f81a3cb", func := "cento/centolaw25.ComposeMakes", spec := "composeMakes", unfollowed := true, recurses := true, loops := true, apart := false, narrowed := true }
def ComposeMakesUptoSaid : Prop := composeMakesUptoRow.holds Try.pinned (OpenSpec.upto composeMakesSpec)

/-- 'centolaw25.ComposeWords', WHERE WHAT IT READS IS OF BULK AT MOST 1048576: true; the input reads as it did. -/
def composeWordsUptoRow : OpenClaim := { program := "ytpjenobkibfpcaa", sum := "d0f51f93a4052787f8e08aed7b1a8412f152dbc2485032b914ed74cc4f81a3cb", func := "cento/centolaw25.ComposeWords", spec := "composeWords", unfollowed := true, recurses := true, apart := false, narrowed := true }
def ComposeWordsUptoSaid : Prop := composeWordsUptoRow.holds Try.pinned (OpenSpec.upto composeWordsSpec)

/-- 'centolaw40.FocusDoes', WHERE WHAT IT READS IS OF BULK AT MOST 1048576: true; the input reads as it did. -/
def focusDoesUptoRow : OpenClaim := { program := "ytpjenobkibfpcaa", sum := "d0f51f93a4052787f8e08aed7b1a8412f152dbc2485032b914ed74cc4f81a3cb", func := "cento/centolaw40.FocusDoes", spec := "focusDoes", unfollowed := true, recurses := true, loops := true, apart := false, narrowed := true }
def FocusDoesUptoSaid : Prop := focusDoesUptoRow.holds Try.pinned (OpenSpec.upto focusDoesSpec)

/-- 'centolaw40.FocusLeaves', WHERE WHAT IT READS IS OF BULK AT MOST 1048576: true; the input reads as it did. -/
def focusLeavesUptoRow : OpenClaim := { program := "ytpjenobkibfpcaa", sum := "d0f51f93a4052787f8e08aed7b1a8412f152dbc2485032b914ed74cc4f81a3cb", func := "cento/centolaw40.FocusLeaves", spec := "focusLeaves", unfollowed := true, recurses := true, loops := true, apart := false, narrowed := true }
def FocusLeavesUptoSaid : Prop := focusLeavesUptoRow.holds Try.pinned (OpenSpec.upto focusLeavesSpec)

/-- 'centolaw30.RebaseSquare', WHERE WHAT IT READS IS OF BULK AT MOST 1048576: true; the input reads as it did. -/
def rebaseSquareUptoRow : OpenClaim := { program := "ytpjenobkibfpcaa", sum := "d0f51f93a4052787f8e08aed7b1a8412f152dbc2485032b914ed74cc4f81a3cb", func := "cento/centolaw30.RebaseSquare", spec := "rebaseSquare", unfollowed := true, recurses := true, loops := true, apart := false, narrowed := true }
def RebaseSquareUptoSaid : Prop := rebaseSquareUptoRow.holds Try.pinned (OpenSpec.upto rebaseSquareSpec)

/-- 'centolaw30.RebaseTurned', WHERE WHAT IT READS IS OF BULK AT MOST 1048576: true; the input reads as it did. -/
def rebaseTurnedUptoRow : OpenClaim := { program := "ytpjenobkibfpcaa", sum := "d0f51f93a4052787f8e08aed7b1a8412f152dbc2485032b914ed74cc4f81a3cb", func := "cento/centolaw30.RebaseTurned", spec := "rebaseTurned", unfollowed := true, recurses := true, loops := true, apart := false, narrowed := true }
def RebaseTurnedUptoSaid : Prop := rebaseTurnedUptoRow.holds Try.pinned (OpenSpec.upto rebaseTurnedSpec)

/-- 'centolaw30.RebaseSelf', WHERE WHAT IT READS IS OF BULK AT MOST 1048576: true; the input reads as it did. -/
def rebaseSelfUptoRow : OpenClaim := { program := "ytpjenobkibfpcaa", sum := "d0f51f93a4052787f8e08aed7b1a8412f152dbc2485032b914ed74cc4f81a3cb", func := "cento/centolaw30.RebaseSelf", spec := "rebaseSelf", unfollowed := true, recurses := true, loops := true, apart := false, narrowed := true }
def RebaseSelfUptoSaid : Prop := rebaseSelfUptoRow.holds Try.pinned (OpenSpec.upto rebaseSelfSpec)

/-- 'centolaw42.HistoryBack', WHERE WHAT IT READS IS OF BULK AT MOST 1048576: true; the input reads as it did. -/
def historyBackUptoRow : OpenClaim := { program := "ytpjenobkibfpcaa", sum := "d0f51f93a4052787f8e08aed7b1a8412f152dbc2485032b914ed74cc4f81a3cb", func := "cento/centolaw42.HistoryBack", spec := "historyBack", unfollowed := true, recurses := true, loops := true, apart := false, narrowed := true }
def HistoryBackUptoSaid : Prop := historyBackUptoRow.holds Try.pinned (OpenSpec.upto historyBackSpec)

/-- 'centolaw41.SplitDoes', WHERE WHAT IT READS IS OF BULK AT MOST 1048576: true; the input reads as it did. -/
def splitDoesUptoRow : OpenClaim := { program := "ytpjenobkibfpcaa", sum := "d0f51f93a4052787f8e08aed7b1a8412f152dbc2485032b914ed74cc4f81a3cb", func := "cento/centolaw41.SplitDoes", spec := "splitDoes", unfollowed := true, recurses := true, loops := true, apart := false, narrowed := true }
def SplitDoesUptoSaid : Prop := splitDoesUptoRow.holds Try.pinned (OpenSpec.upto splitDoesSpec)

/-- 'centolaw25.ComposeSome', WHERE WHAT IT READS IS OF BULK AT MOST 1048576: true; the input reads as it did. -/
def composeSomeUptoRow : OpenClaim := { program := "ytpjenobkibfpcaa", sum := "d0f51f93a4052787f8e08aed7b1a8412f152dbc2485032b914ed74cc4f81a3cb", func := "cento/centolaw25.ComposeSome", spec := "composeSome", unfollowed := true, recurses := true, loops := true, apart := false, narrowed := true }
def ComposeSomeUptoSaid : Prop := composeSomeUptoRow.holds Try.pinned (OpenSpec.upto composeSomeSpec)

end Rows
end Go.Proofs.Ytpjenobkibfpcaa
