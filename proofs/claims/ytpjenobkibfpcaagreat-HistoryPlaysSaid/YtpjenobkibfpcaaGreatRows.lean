/-
  NARROWER THAN 'FOR EVERY INPUT', by the rows' own cells (each row's printed sentence says how): RebaseMoves: loops · SplitJoins: loops · SplitParts: loops · HistorySquash: loops · HistoryPlays: loops · HistoryNone: loops · HubTurned: loops · HubPlays: loops · HubAgrees: loops · HubLog: loops · HubNone: loops.
  DERIVED. THE GIVEN ROWS OF THIS SEAT. 11 by the template 'for every input the law returns true; each argument reads behind the call as it read before'; 0 by the template 'total and deterministic' (their statements: YtpjenobkibfpcaaGreatTotals.lean).
  GIVEN WITH THE SEED: the statements are not yours to turn. If you find one false, say at which input.
  Laid BY PROGRAM, IN A SANDBOX (cutbox-rows.mjs): the forced cells as the released guide's own fill.sh prints them over the translation 2d891fb83e2c854f… (all of the seat's roots in one cut). By AI agents, Wed Nov 11 2026. No macro, syntax, notation, axiom, sorry.
-/
import Derived.Test.YtpjenobkibfpcaaGreatChecked
import GoSem.Claim
import GoSem.ClaimJoined
import GoSem.ClaimMapViews
import Derived.JoinedTies
import Derived.KernelRfl
namespace Go.Proofs.YtpjenobkibfpcaaGreat
/- THE CELL 'sum', in the pinned program and in every row, IS THE sha256 OF THE DUMP (.gsa) THAT YtpjenobkibfpcaaGreatProg.lean LOADS. Nothing in Lean hashes anything: it is a label: what it is worth is what the hold of that sum in a sandbox is worth. -/
noncomputable def Tryz.pinned : Pinned := { name := "ytpjenobkibfpcaagreat", sum := "2d891fb83e2c854f9abb403806686fa812e9fbe7b00781c3454281cc7f5ebac9", checked := Tryz.checked }
namespace Rows
def none {H : Type} : Left H := { results := [], args := [] }

/-- 'centolaw30.RebaseMoves': WHATEVER THE INPUT: true; the input reads as it did. -/
def rebaseMovesSpec : ChangeSpec := { name := "rebaseMoves", fn := fun _ => fun
  | [d1, d2] => { results := [.lit (.bool true)], args := [d1, d2] }
  | _ => none }
def rebaseMovesRow : OpenClaim := { program := "ytpjenobkibfpcaagreat", sum := "2d891fb83e2c854f9abb403806686fa812e9fbe7b00781c3454281cc7f5ebac9", func := "cento/centolaw30.RebaseMoves", spec := "rebaseMoves", unfollowed := true, recurses := true, loops := true, apart := false }
def RebaseMovesSaid : Prop := rebaseMovesRow.holds Tryz.pinned (OpenSpec.ofChange rebaseMovesSpec)

/-- ITS FALSE NEIGHBOUR: 'it returns false'. Refute it at one input. -/
def rebaseMovesWrong : ChangeSpec := { name := "rebaseMoves", fn := fun _ => fun
  | [d1, d2] => { results := [.lit (.bool false)], args := [d1, d2] }
  | _ => none }
def RebaseMovesWrongFalsely : Prop := rebaseMovesRow.holds Tryz.pinned (OpenSpec.ofChange rebaseMovesWrong)

/-- 'centolaw41.SplitJoins': WHATEVER THE INPUT: true; the input reads as it did. -/
def splitJoinsSpec : ChangeSpec := { name := "splitJoins", fn := fun _ => fun
  | [d1, d2, d3] => { results := [.lit (.bool true)], args := [d1, d2, d3] }
  | _ => none }
def splitJoinsRow : OpenClaim := { program := "ytpjenobkibfpcaagreat", sum := "2d891fb83e2c854f9abb403806686fa812e9fbe7b00781c3454281cc7f5ebac9", func := "cento/centolaw41.SplitJoins", spec := "splitJoins", unfollowed := true, recurses := true, loops := true, apart := false }
def SplitJoinsSaid : Prop := splitJoinsRow.holds Tryz.pinned (OpenSpec.ofChange splitJoinsSpec)

/-- ITS FALSE NEIGHBOUR: 'it returns false'. Refute it at one input. -/
def splitJoinsWrong : ChangeSpec := { name := "splitJoins", fn := fun _ => fun
  | [d1, d2, d3] => { results := [.lit (.bool false)], args := [d1, d2, d3] }
  | _ => none }
def SplitJoinsWrongFalsely : Prop := splitJoinsRow.holds Tryz.pinned (OpenSpec.ofChange splitJoinsWrong)

/-- 'centolaw41.SplitParts': WHATEVER THE INPUT: true; the input reads as it did. -/
def splitPartsSpec : ChangeSpec := { name := "splitParts", fn := fun _ => fun
  | [d] => { results := [.lit (.bool true)], args := [d] }
  | _ => none }
def splitPartsRow : OpenClaim := { program := "ytpjenobkibfpcaagreat", sum := "2d891fb83e2c854f9abb403806686fa812e9fbe7b00781c3454281cc7f5ebac9", func := "cento/centolaw41.SplitParts", spec := "splitParts", unfollowed := true, recurses := true, loops := true, apart := false }
def SplitPartsSaid : Prop := splitPartsRow.holds Tryz.pinned (OpenSpec.ofChange splitPartsSpec)

/-- ITS FALSE NEIGHBOUR: 'it returns false'. Refute it at one input. -/
def splitPartsWrong : ChangeSpec := { name := "splitParts", fn := fun _ => fun
  | [d] => { results := [.lit (.bool false)], args := [d] }
  | _ => none }
def SplitPartsWrongFalsely : Prop := splitPartsRow.holds Tryz.pinned (OpenSpec.ofChange splitPartsWrong)

/-- 'centolaw42.HistorySquash': WHATEVER THE INPUT: true; the input reads as it did. -/
def historySquashSpec : ChangeSpec := { name := "historySquash", fn := fun _ => fun
  | [d1, d2] => { results := [.lit (.bool true)], args := [d1, d2] }
  | _ => none }
def historySquashRow : OpenClaim := { program := "ytpjenobkibfpcaagreat", sum := "2d891fb83e2c854f9abb403806686fa812e9fbe7b00781c3454281cc7f5ebac9", func := "cento/centolaw42.HistorySquash", spec := "historySquash", unfollowed := true, recurses := true, loops := true, apart := false }
def HistorySquashSaid : Prop := historySquashRow.holds Tryz.pinned (OpenSpec.ofChange historySquashSpec)

/-- ITS FALSE NEIGHBOUR: 'it returns false'. Refute it at one input. -/
def historySquashWrong : ChangeSpec := { name := "historySquash", fn := fun _ => fun
  | [d1, d2] => { results := [.lit (.bool false)], args := [d1, d2] }
  | _ => none }
def HistorySquashWrongFalsely : Prop := historySquashRow.holds Tryz.pinned (OpenSpec.ofChange historySquashWrong)

/-- 'centolaw42.HistoryPlays': WHATEVER THE INPUT: true; the input reads as it did. -/
def historyPlaysSpec : ChangeSpec := { name := "historyPlays", fn := fun _ => fun
  | [d1, d2] => { results := [.lit (.bool true)], args := [d1, d2] }
  | _ => none }
def historyPlaysRow : OpenClaim := { program := "ytpjenobkibfpcaagreat", sum := "2d891fb83e2c854f9abb403806686fa812e9fbe7b00781c3454281cc7f5ebac9", func := "cento/centolaw42.HistoryPlays", spec := "historyPlays", unfollowed := true, recurses := true, loops := true, apart := false }
def HistoryPlaysSaid : Prop := historyPlaysRow.holds Tryz.pinned (OpenSpec.ofChange historyPlaysSpec)

/-- ITS FALSE NEIGHBOUR: 'it returns false'. Refute it at one input. -/
def historyPlaysWrong : ChangeSpec := { name := "historyPlays", fn := fun _ => fun
  | [d1, d2] => { results := [.lit (.bool false)], args := [d1, d2] }
  | _ => none }
def HistoryPlaysWrongFalsely : Prop := historyPlaysRow.holds Tryz.pinned (OpenSpec.ofChange historyPlaysWrong)

/-- 'centolaw42.HistoryNone': WHATEVER THE INPUT: true; the input reads as it did. -/
def historyNoneSpec : ChangeSpec := { name := "historyNone", fn := fun _ => fun
  | [d] => { results := [.lit (.bool true)], args := [d] }
  | _ => none }
def historyNoneRow : OpenClaim := { program := "ytpjenobkibfpcaagreat", sum := "2d891fb83e2c854f9abb403806686fa812e9fbe7b00781c3454281cc7f5ebac9", func := "cento/centolaw42.HistoryNone", spec := "historyNone", unfollowed := true, recurses := true, loops := true, apart := false }
def HistoryNoneSaid : Prop := historyNoneRow.holds Tryz.pinned (OpenSpec.ofChange historyNoneSpec)

/-- ITS FALSE NEIGHBOUR: 'it returns false'. Refute it at one input. -/
def historyNoneWrong : ChangeSpec := { name := "historyNone", fn := fun _ => fun
  | [d] => { results := [.lit (.bool false)], args := [d] }
  | _ => none }
def HistoryNoneWrongFalsely : Prop := historyNoneRow.holds Tryz.pinned (OpenSpec.ofChange historyNoneWrong)

/-- 'centolaw43.HubTurned': WHATEVER THE INPUT: true; the input reads as it did. -/
def hubTurnedSpec : ChangeSpec := { name := "hubTurned", fn := fun _ => fun
  | [d1, d2, d3] => { results := [.lit (.bool true)], args := [d1, d2, d3] }
  | _ => none }
def hubTurnedRow : OpenClaim := { program := "ytpjenobkibfpcaagreat", sum := "2d891fb83e2c854f9abb403806686fa812e9fbe7b00781c3454281cc7f5ebac9", func := "cento/centolaw43.HubTurned", spec := "hubTurned", unfollowed := true, recurses := true, loops := true, apart := false }
def HubTurnedSaid : Prop := hubTurnedRow.holds Tryz.pinned (OpenSpec.ofChange hubTurnedSpec)

/-- ITS FALSE NEIGHBOUR: 'it returns false'. Refute it at one input. -/
def hubTurnedWrong : ChangeSpec := { name := "hubTurned", fn := fun _ => fun
  | [d1, d2, d3] => { results := [.lit (.bool false)], args := [d1, d2, d3] }
  | _ => none }
def HubTurnedWrongFalsely : Prop := hubTurnedRow.holds Tryz.pinned (OpenSpec.ofChange hubTurnedWrong)

/-- 'centolaw43.HubPlays': WHATEVER THE INPUT: true; the input reads as it did. -/
def hubPlaysSpec : ChangeSpec := { name := "hubPlays", fn := fun _ => fun
  | [d1, d2] => { results := [.lit (.bool true)], args := [d1, d2] }
  | _ => none }
def hubPlaysRow : OpenClaim := { program := "ytpjenobkibfpcaagreat", sum := "2d891fb83e2c854f9abb403806686fa812e9fbe7b00781c3454281cc7f5ebac9", func := "cento/centolaw43.HubPlays", spec := "hubPlays", unfollowed := true, recurses := true, loops := true, apart := false }
def HubPlaysSaid : Prop := hubPlaysRow.holds Tryz.pinned (OpenSpec.ofChange hubPlaysSpec)

/-- ITS FALSE NEIGHBOUR: 'it returns false'. Refute it at one input. -/
def hubPlaysWrong : ChangeSpec := { name := "hubPlays", fn := fun _ => fun
  | [d1, d2] => { results := [.lit (.bool false)], args := [d1, d2] }
  | _ => none }
def HubPlaysWrongFalsely : Prop := hubPlaysRow.holds Tryz.pinned (OpenSpec.ofChange hubPlaysWrong)

/-- 'centolaw43.HubAgrees': WHATEVER THE INPUT: true; the input reads as it did. -/
def hubAgreesSpec : ChangeSpec := { name := "hubAgrees", fn := fun _ => fun
  | [d1, d2] => { results := [.lit (.bool true)], args := [d1, d2] }
  | _ => none }
def hubAgreesRow : OpenClaim := { program := "ytpjenobkibfpcaagreat", sum := "2d891fb83e2c854f9abb403806686fa812e9fbe7b00781c3454281cc7f5ebac9", func := "cento/centolaw43.HubAgrees", spec := "hubAgrees", unfollowed := true, recurses := true, loops := true, apart := false }
def HubAgreesSaid : Prop := hubAgreesRow.holds Tryz.pinned (OpenSpec.ofChange hubAgreesSpec)

/-- ITS FALSE NEIGHBOUR: 'it returns false'. Refute it at one input. -/
def hubAgreesWrong : ChangeSpec := { name := "hubAgrees", fn := fun _ => fun
  | [d1, d2] => { results := [.lit (.bool false)], args := [d1, d2] }
  | _ => none }
def HubAgreesWrongFalsely : Prop := hubAgreesRow.holds Tryz.pinned (OpenSpec.ofChange hubAgreesWrong)

/-- 'centolaw43.HubLog': WHATEVER THE INPUT: true; the input reads as it did. -/
def hubLogSpec : ChangeSpec := { name := "hubLog", fn := fun _ => fun
  | [d1, d2, d3] => { results := [.lit (.bool true)], args := [d1, d2, d3] }
  | _ => none }
def hubLogRow : OpenClaim := { program := "ytpjenobkibfpcaagreat", sum := "2d891fb83e2c854f9abb403806686fa812e9fbe7b00781c3454281cc7f5ebac9", func := "cento/centolaw43.HubLog", spec := "hubLog", unfollowed := true, recurses := true, loops := true, apart := false }
def HubLogSaid : Prop := hubLogRow.holds Tryz.pinned (OpenSpec.ofChange hubLogSpec)

/-- ITS FALSE NEIGHBOUR: 'it returns false'. Refute it at one input. -/
def hubLogWrong : ChangeSpec := { name := "hubLog", fn := fun _ => fun
  | [d1, d2, d3] => { results := [.lit (.bool false)], args := [d1, d2, d3] }
  | _ => none }
def HubLogWrongFalsely : Prop := hubLogRow.holds Tryz.pinned (OpenSpec.ofChange hubLogWrong)

/-- 'centolaw43.HubNone': WHATEVER THE INPUT: true; the input reads as it did. -/
def hubNoneSpec : ChangeSpec := { name := "hubNone", fn := fun _ => fun
  | [d] => { results := [.lit (.bool true)], args := [d] }
  | _ => none }
def hubNoneRow : OpenClaim := { program := "ytpjenobkibfpcaagreat", sum := "2d891fb83e2c854f9abb403806686fa812e9fbe7b00781c3454281cc7f5ebac9", func := "cento/centolaw43.HubNone", spec := "hubNone", unfollowed := true, recurses := true, loops := true, apart := false }
def HubNoneSaid : Prop := hubNoneRow.holds Tryz.pinned (OpenSpec.ofChange hubNoneSpec)

/-- ITS FALSE NEIGHBOUR: 'it returns false'. Refute it at one input. -/
def hubNoneWrong : ChangeSpec := { name := "hubNone", fn := fun _ => fun
  | [d] => { results := [.lit (.bool false)], args := [d] }
  | _ => none }
def HubNoneWrongFalsely : Prop := hubNoneRow.holds Tryz.pinned (OpenSpec.ofChange hubNoneWrong)

/- THE SECOND FORM. 'bulk': how many values and letters a reading holds, each counted each time it is reached (what is shared counts as often as it is met; a slice's spare places count too). A statement '..UptoSaid' is the law's where the arguments, and the package variables that the reading takes, are together of bulk at most 1048576: NARROWER than '..Said'. Prove '..Said' where nothing that the law and all that it calls make is longer than what came in: it says more and counts as full. Else prove '..UptoSaid'. A law counts once. -/
mutual
def uptoBulk {H : Type} : DataW H → Nat
  | .lit (.string bytes) => bytes.length + 1
  | .lit _ => 1
  | .nil => 1
  | .ptr d => uptoBulk d + 1
  | .slice elems spare => uptoBulkAll elems + uptoBulkAll spare + 1
  | .agg parts => uptoBulkAll parts + 1
  | .iface _ d => uptoBulk d + 1
  | .map entries => uptoBulkEntries entries + 1
  | .held _ => 1
def uptoBulkAll {H : Type} : List (DataW H) → Nat
  | [] => 0
  | d :: r => uptoBulk d + uptoBulkAll r
def uptoBulkEntries {H : Type} : List (Lit × DataW H) → Nat
  | [] => 0
  | x :: r => uptoBulkEntry x + uptoBulkEntries r
def uptoBulkEntry {H : Type} : Lit × DataW H → Nat
  | (.string bytes, d) => bytes.length + uptoBulk d + 1
  | (_, d) => uptoBulk d + 1
 end
def uptoSmall : (H : Type) → List (DataW H) → Bool := fun _ ds => decide (uptoBulkAll ds ≤ 1048576)
def OpenSpec.upto (s : _root_.Go.ChangeSpec) : _root_.Go.OpenSpec := { _root_.Go.OpenSpec.ofChange s with cond := some uptoSmall }

/-- 'centolaw30.RebaseMoves', WHERE WHAT IT READS IS OF BULK AT MOST 1048576: true; the input reads as it did. -/
def rebaseMovesUptoRow : OpenClaim := { program := "ytpjenobkibfpcaagreat", sum := "2d891fb83e2c854f9abb403806686fa812e9fbe7b00781c3454281cc7f5ebac9", func := "cento/centolaw30.RebaseMoves", spec := "rebaseMoves", unfollowed := true, recurses := true, loops := true, apart := false, narrowed := true }
def RebaseMovesUptoSaid : Prop := rebaseMovesUptoRow.holds Tryz.pinned (OpenSpec.upto rebaseMovesSpec)

/-- 'centolaw41.SplitJoins', WHERE WHAT IT READS IS OF BULK AT MOST 1048576: true; the input reads as it did. -/
def splitJoinsUptoRow : OpenClaim := { program := "ytpjenobkibfpcaagreat", sum := "2d891fb83e2c854f9abb403806686fa812e9fbe7b00781c3454281cc7f5ebac9", func := "cento/centolaw41.SplitJoins", spec := "splitJoins", unfollowed := true, recurses := true, loops := true, apart := false, narrowed := true }
def SplitJoinsUptoSaid : Prop := splitJoinsUptoRow.holds Tryz.pinned (OpenSpec.upto splitJoinsSpec)

/-- 'centolaw41.SplitParts', WHERE WHAT IT READS IS OF BULK AT MOST 1048576: true; the input reads as it did. -/
def splitPartsUptoRow : OpenClaim := { program := "ytpjenobkibfpcaagreat", sum := "2d891fb83e2c854f9abb403806686fa812e9fbe7b00781c3454281cc7f5ebac9", func := "cento/centolaw41.SplitParts", spec := "splitParts", unfollowed := true, recurses := true, loops := true, apart := false, narrowed := true }
def SplitPartsUptoSaid : Prop := splitPartsUptoRow.holds Tryz.pinned (OpenSpec.upto splitPartsSpec)

/-- 'centolaw42.HistorySquash', WHERE WHAT IT READS IS OF BULK AT MOST 1048576: true; the input reads as it did. -/
def historySquashUptoRow : OpenClaim := { program := "ytpjenobkibfpcaagreat", sum := "2d891fb83e2c854f9abb403806686fa812e9fbe7b00781c3454281cc7f5ebac9", func := "cento/centolaw42.HistorySquash", spec := "historySquash", unfollowed := true, recurses := true, loops := true, apart := false, narrowed := true }
def HistorySquashUptoSaid : Prop := historySquashUptoRow.holds Tryz.pinned (OpenSpec.upto historySquashSpec)

/-- 'centolaw42.HistoryPlays', WHERE WHAT IT READS IS OF BULK AT MOST 1048576: true; the input reads as it did. -/
def historyPlaysUptoRow : OpenClaim := { program := "ytpjenobkibfpcaagreat", sum := "2d891fb83e2c854f9abb403806686fa812e9fbe7b00781c3454281cc7f5ebac9", func := "cento/centolaw42.HistoryPlays", spec := "historyPlays", unfollowed := true, recurses := true, loops := true, apart := false, narrowed := true }
def HistoryPlaysUptoSaid : Prop := historyPlaysUptoRow.holds Tryz.pinned (OpenSpec.upto historyPlaysSpec)

/-- 'centolaw42.HistoryNone', WHERE WHAT IT READS IS OF BULK AT MOST 1048576: true; the input reads as it did. -/
def historyNoneUptoRow : OpenClaim := { program := "ytpjenobkibfpcaagreat", sum := "2d891fb83e2c854f9abb403806686fa812e9fbe7b00781c3454281cc7f5ebac9", func := "cento/centolaw42.HistoryNone", spec := "historyNone", unfollowed := true, recurses := true, loops := true, apart := false, narrowed := true }
def HistoryNoneUptoSaid : Prop := historyNoneUptoRow.holds Tryz.pinned (OpenSpec.upto historyNoneSpec)

/-- 'centolaw43.HubTurned', WHERE WHAT IT READS IS OF BULK AT MOST 1048576: true; the input reads as it did. -/
def hubTurnedUptoRow : OpenClaim := { program := "ytpjenobkibfpcaagreat", sum := "2d891fb83e2c854f9abb403806686fa812e9fbe7b00781c3454281cc7f5ebac9", func := "cento/centolaw43.HubTurned", spec := "hubTurned", unfollowed := true, recurses := true, loops := true, apart := false, narrowed := true }
def HubTurnedUptoSaid : Prop := hubTurnedUptoRow.holds Tryz.pinned (OpenSpec.upto hubTurnedSpec)

/-- 'centolaw43.HubPlays', WHERE WHAT IT READS IS OF BULK AT MOST 1048576: true; the input reads as it did. -/
def hubPlaysUptoRow : OpenClaim := { program := "ytpjenobkibfpcaagreat", sum := "2d891fb83e2c854f9abb403806686fa812e9fbe7b00781c3454281cc7f5ebac9", func := "cento/centolaw43.HubPlays", spec := "hubPlays", unfollowed := true, recurses := true, loops := true, apart := false, narrowed := true }
def HubPlaysUptoSaid : Prop := hubPlaysUptoRow.holds Tryz.pinned (OpenSpec.upto hubPlaysSpec)

/-- 'centolaw43.HubAgrees', WHERE WHAT IT READS IS OF BULK AT MOST 1048576: true; the input reads as it did. -/
def hubAgreesUptoRow : OpenClaim := { program := "ytpjenobkibfpcaagreat", sum := "2d891fb83e2c854f9abb403806686fa812e9fbe7b00781c3454281cc7f5ebac9", func := "cento/centolaw43.HubAgrees", spec := "hubAgrees", unfollowed := true, recurses := true, loops := true, apart := false, narrowed := true }
def HubAgreesUptoSaid : Prop := hubAgreesUptoRow.holds Tryz.pinned (OpenSpec.upto hubAgreesSpec)

/-- 'centolaw43.HubLog', WHERE WHAT IT READS IS OF BULK AT MOST 1048576: true; the input reads as it did. -/
def hubLogUptoRow : OpenClaim := { program := "ytpjenobkibfpcaagreat", sum := "2d891fb83e2c854f9abb403806686fa812e9fbe7b00781c3454281cc7f5ebac9", func := "cento/centolaw43.HubLog", spec := "hubLog", unfollowed := true, recurses := true, loops := true, apart := false, narrowed := true }
def HubLogUptoSaid : Prop := hubLogUptoRow.holds Tryz.pinned (OpenSpec.upto hubLogSpec)

/-- 'centolaw43.HubNone', WHERE WHAT IT READS IS OF BULK AT MOST 1048576: true; the input reads as it did. -/
def hubNoneUptoRow : OpenClaim := { program := "ytpjenobkibfpcaagreat", sum := "2d891fb83e2c854f9abb403806686fa812e9fbe7b00781c3454281cc7f5ebac9", func := "cento/centolaw43.HubNone", spec := "hubNone", unfollowed := true, recurses := true, loops := true, apart := false, narrowed := true }
def HubNoneUptoSaid : Prop := hubNoneUptoRow.holds Tryz.pinned (OpenSpec.upto hubNoneSpec)

end Rows
end Go.Proofs.YtpjenobkibfpcaaGreat
