/- Printed by program: what is known of each function, and the conditions that its code comes to. -/
import Derived.Test.YtlahjnelghpmeaaD20x
import Derived.Test.YtlahjnelghpmeaaB20g
import Derived.Test.YtlahjnelghpmeaaB20c
import Derived.Test.YtlahjnelghpmeaaB07
import Derived.Test.YtlahjnelghpmeaaL07
set_option linter.unusedSimpArgs false
set_option linter.unusedVariables false
namespace Go.AM.Ytlahjnelghpmeaa
open Go.AM Go.Proofs

def args87 : ArgL (Edit × Int × Unit) := (.cons (aEl .edit) (.cons (aInt .i64) .nil))
def pre87 (a : Edit × Int × Unit) : Prop := (massE a.1 ≤ 900000 ∧ rngE a.1) ∧ 0 ≤ a.2.1 ∧ a.2.1 ≤ 1000
def mu87 (a : Edit × Int × Unit) : Nat := 4 * massE a.1
noncomputable def res87 (a : Edit × Int × Unit) : V U := .c (.bool (rightE a.1 a.2.1))
noncomputable def spec87 : Fs U := fs args87 (fun a => [pre87 a]) res87

def args121 : ArgL (List Kid × Int × Unit) := (.cons (aSl .kid) (.cons (aInt .i64) .nil))
def pre121 (a : List Kid × Int × Unit) : Prop := (massKs a.1 ≤ 900000 ∧ rngKs a.1) ∧ 0 ≤ a.2.1 ∧ a.2.1 ≤ 1000
def mu121 (a : List Kid × Int × Unit) : Nat := 4 * massKs a.1 + 2
noncomputable def res121 (a : List Kid × Int × Unit) : V U := .c (.bool (rightKs (-1) a.1 a.2.1))
noncomputable def spec121 : Fs U := fs args121 (fun a => [pre121 a]) res121

def args122 : ArgL (Edit × Int × Unit) := (.cons (aEl .edit) (.cons (aInt .i64) .nil))
def pre122 (a : Edit × Int × Unit) : Prop := (massE a.1 ≤ 900000 ∧ rngE a.1 ∧ 2 ≤ Edit.list a.1 ∧ Edit.list a.1 ≤ 9) ∧ 0 ≤ a.2.1 ∧ a.2.1 ≤ 1000
def mu122 (a : Edit × Int × Unit) : Nat := 4 * massOs (Edit.ops a.1) + 2
noncomputable def res122 (a : Edit × Int × Unit) : V U := .c (.bool (rightOs (Edit.list a.1) (Edit.ops a.1) a.2.1 && decide (lenA (Edit.ops a.1) 0 < 1048576 ∧ lenB (Edit.ops a.1) 0 < 1048576)))
noncomputable def spec122 : Fs U := fs args122 (fun a => [pre122 a]) res122

def args132 : ArgL (Int × Op × Int × Unit) := (.cons (aInt .i64) (.cons (aEl .op) (.cons (aInt .i64) .nil)))
def pre132 (a : Int × Op × Int × Unit) : Prop := (massOp a.2.1 ≤ 900000 ∧ rngOp a.2.1 ∧ 2 ≤ a.1 ∧ a.1 ≤ 9) ∧ 0 ≤ a.2.2.1 ∧ a.2.2.1 ≤ 1000
def mu132 (a : Int × Op × Int × Unit) : Nat := 4 * massOp a.2.1 + 1
noncomputable def res132 (a : Int × Op × Int × Unit) : V U := .c (.bool (rightOp a.1 a.2.1 a.2.2.1))
noncomputable def spec132 : Fs U := fs args132 (fun a => [pre132 a]) res132

def args58 : ArgL (Edit × Unit) := (.cons (aEl .edit) .nil)
def pre58 (a : Edit × Unit) : Prop := massE a.1 ≤ 900000 ∧ rngE a.1
noncomputable def res58 (a : Edit × Unit) : V U := .c (.bool (rightE a.1 64))
noncomputable def spec58 : Fs U := fs args58 (fun a => [pre58 a]) res58

/-! cento/edit.right -/
noncomputable def know87 (N : Nat) : List (FuncId × Fs U) := (87, fs args87 (fun a => [pre87 a, mu87 a < N]) res87) :: (121, fs args121 (fun a => [pre121 a, mu121 a < N]) res121) :: (122, fs args122 (fun a => [pre122 a, mu122 a < N]) res122) :: (132, fs args132 (fun a => [pre132 a, mu132 a < N]) res132) :: [(118, spec118), (119, spec119), (120, spec120), (48, spec48), (135, spec135), (138, spec138), (56, spec56)]
def lv87 : Lives U := fun i => match i with
  | 0 => ([(1, []), (2, [])], [((.loc 2), [])])
  | 1 => ([(1, []), (2, []), (11, [])], [((.loc 2), [])])
  | 2 => ([(4, [])], [])
  | 3 => ([(1, []), (2, []), (13, [])], [((.loc 2), [])])
  | 4 => ([(1, []), (2, []), (13, []), (14, [])], [((.loc 2), [])])
  | 5 => ([(4, [])], [])
  | 6 => ([(1, []), (2, []), (13, []), (16, [])], [((.loc 2), [])])
  | 7 => ([(4, [])], [])
  | 8 => ([(1, []), (2, []), (13, []), (26, [])], [((.loc 2), [])])
  | 9 => ([(4, [])], [])
  | 10 => ([(1, []), (2, []), (38, [])], [((.loc 2), [])])
  | 11 => ([(4, [])], [])
  | 12 => ([(4, [])], [])
  | _ => ([], [])
abbrev W87 (N : Nat) (e : Edit) (d : Int) (Q : AExit → LSt U → Prop) : Prop := awp cfg (know (know87 N)) (drawOk cfg (know (know87 N))) Try.f87.ntmps lv87 (cd Try.f87 []) (⟨[(0, .agg [.int .i64 (Edit.kind e), .int .i64 (Tree.kind (Edit.old e)), .slice (U := U) .u64 (Tree.words (Edit.old e)) .unk, .slice (U := U) .tree (Tree.kids (Edit.old e)) .unk, .int .i64 (Tree.kind (Edit.new e)), .slice (U := U) .u64 (Tree.words (Edit.new e)) .unk, .slice (U := U) .tree (Tree.kids (Edit.new e)) .unk, .slice (U := U) .wedit (Edit.words e) .unk, .slice (U := U) .kid (Edit.kids e) .unk, .int .i64 (Edit.list e), .slice (U := U) .op (Edit.ops e) .unk]), (1, .c (.int .i64 d))], [], []⟩ : LSt U) Q
/-- the body -/
theorem vc87 (N : Nat) (e : Edit) (d : Int) (Q : AExit → LSt U → Prop) (h : ∀ y_1, y_1 = (e) → ∀ y_2, y_2 = ((Edit.new e)) → ∀ y_3, y_3 = ((Edit.old e)) → (pre118 (y_1, ())) ∧ (((bif (!(bareE y_1)) then true else ((d : Int) == 0)) = true → Q .ret (⟨[(4, .c (.bool false))], [], []⟩ : LSt U)) ∧ ((bif (!(bareE y_1)) then true else ((d : Int) == 0)) = false → ((((Edit.kind e) : Int) == 0) = true → Q .ret (⟨[(4, .c (.bool true))], [], []⟩ : LSt U)) ∧ ((((Edit.kind e) : Int) == 0) = false → ((((Edit.kind e) : Int) == 1) = true → (pre119 (y_3, ())) ∧ (((decide (Tree.kind y_3 ≠ 10) && rightT y_3 64)) = true → pre119 (y_2, ())) ∧ (Q .ret (⟨[(4, .c (.bool (bif (decide (Tree.kind y_3 ≠ 10) && rightT y_3 64) then (decide (Tree.kind y_2 ≠ 10) && rightT y_2 64) else false)))], [], []⟩ : LSt U))) ∧ ((((Edit.kind e) : Int) == 1) = false → ((((Edit.kind e) : Int) == 2) = true → (pre120 ((Edit.words e), ())) ∧ ((wordsOk (-1) (Edit.words e)) = true → InR ((d : Int) - 1)) ∧ ((wordsOk (-1) (Edit.words e)) = true → pre121 ((Edit.kids e), ((d : Int) - 1), ())) ∧ ((wordsOk (-1) (Edit.words e)) = true → mu121 ((Edit.kids e), ((d : Int) - 1), ()) < N) ∧ (Q .ret (⟨[(4, .c (.bool (bif (wordsOk (-1) (Edit.words e)) then (rightKs (-1) (Edit.kids e) ((d : Int) - 1)) else false)))], [], []⟩ : LSt U))) ∧ ((((Edit.kind e) : Int) == 2) = false → ((((Edit.kind e) : Int) == 3) = true → (pre48 ((Edit.list e), ())) ∧ ((decide (2 ≤ (Edit.list e) ∧ (Edit.list e) ≤ 9)) = true → InR ((d : Int) - 1)) ∧ ((decide (2 ≤ (Edit.list e) ∧ (Edit.list e) ≤ 9)) = true → pre122 (y_1, ((d : Int) - 1), ())) ∧ ((decide (2 ≤ (Edit.list e) ∧ (Edit.list e) ≤ 9)) = true → mu122 (y_1, ((d : Int) - 1), ()) < N) ∧ (Q .ret (⟨[(4, .c (.bool (bif (decide (2 ≤ (Edit.list e) ∧ (Edit.list e) ≤ 9)) then (rightOs (Edit.list y_1) (Edit.ops y_1) ((d : Int) - 1) && decide (lenA (Edit.ops y_1) 0 < 1048576 ∧ lenB (Edit.ops y_1) 0 < 1048576)) else false)))], [], []⟩ : LSt U))) ∧ ((((Edit.kind e) : Int) == 3) = false → Q .ret (⟨[(4, .c (.bool false))], [], []⟩ : LSt U)))))))) :
    W87 N e d Q := by
  have e_ : (awp cfg (know (know87 N)) (drawOk cfg (know (know87 N))) Try.f87.ntmps lv87 (cd Try.f87 []) (⟨[(0, .agg [.int .i64 (Edit.kind e), .int .i64 (Tree.kind (Edit.old e)), .slice (U := U) .u64 (Tree.words (Edit.old e)) .unk, .slice (U := U) .tree (Tree.kids (Edit.old e)) .unk, .int .i64 (Tree.kind (Edit.new e)), .slice (U := U) .u64 (Tree.words (Edit.new e)) .unk, .slice (U := U) .tree (Tree.kids (Edit.new e)) .unk, .slice (U := U) .wedit (Edit.words e) .unk, .slice (U := U) .kid (Edit.kids e) .unk, .int .i64 (Edit.list e), .slice (U := U) .op (Edit.ops e) .unk]), (1, .c (.int .i64 d))], [], []⟩ : LSt U) Q) = (let y_1 := (reEdit e); let y_2 := (reTree (Edit.new e)); let y_3 := (reTree (Edit.old e)); ((pre118 (y_1, ())) ∧ ((!(!(bareE y_1))) = true → (!(!(bareE y_1))) = true) ∧ (((!(bareE y_1)) = false → (!(!(bareE y_1))) = true)) ∧ (((bif (!(bareE y_1)) then true else ((d : Int) == 0)) = true → (Q .ret (⟨[(4, .c (.bool false))], [], []⟩ : LSt U))) ∧ ((bif (!(bareE y_1)) then true else ((d : Int) == 0)) = false → ((((((Edit.kind e) : Int) == 0) = true → (Q .ret (⟨[(4, .c (.bool true))], [], []⟩ : LSt U))) ∧ ((((Edit.kind e) : Int) == 0) = false → (((((Edit.kind e) : Int) == 1) = true → (pre119 (y_3, ())) ∧ (((decide (Tree.kind y_3 ≠ 10) && rightT y_3 64)) = true → ((decide (Tree.kind y_3 ≠ 10) && rightT y_3 64)) = true) ∧ (((decide (Tree.kind y_3 ≠ 10) && rightT y_3 64)) = true → ((decide (Tree.kind y_3 ≠ 10) && rightT y_3 64)) = true) ∧ (((decide (Tree.kind y_3 ≠ 10) && rightT y_3 64)) = true → pre119 (y_2, ())) ∧ ((((decide (Tree.kind y_3 ≠ 10) && rightT y_3 64)) = true → ((decide (Tree.kind y_3 ≠ 10) && rightT y_3 64)) = true)) ∧ (Q .ret (⟨[(4, .c (.bool (bif (decide (Tree.kind y_3 ≠ 10) && rightT y_3 64) then (decide (Tree.kind y_2 ≠ 10) && rightT y_2 64) else false)))], [], []⟩ : LSt U))) ∧ ((((Edit.kind e) : Int) == 1) = false → (((((Edit.kind e) : Int) == 2) = true → (pre120 ((Edit.words e), ())) ∧ ((wordsOk (-1) (Edit.words e)) = true → (wordsOk (-1) (Edit.words e)) = true) ∧ ((wordsOk (-1) (Edit.words e)) = true → (wordsOk (-1) (Edit.words e)) = true) ∧ ((wordsOk (-1) (Edit.words e)) = true → InR ((d : Int) - 1)) ∧ ((wordsOk (-1) (Edit.words e)) = true → (wordsOk (-1) (Edit.words e)) = true) ∧ ((wordsOk (-1) (Edit.words e)) = true → (wordsOk (-1) (Edit.words e)) = true) ∧ ((wordsOk (-1) (Edit.words e)) = true → pre121 ((Edit.kids e), ((d : Int) - 1), ())) ∧ ((wordsOk (-1) (Edit.words e)) = true → mu121 ((Edit.kids e), ((d : Int) - 1), ()) < N) ∧ (((wordsOk (-1) (Edit.words e)) = true → (wordsOk (-1) (Edit.words e)) = true)) ∧ (Q .ret (⟨[(4, .c (.bool (bif (wordsOk (-1) (Edit.words e)) then (rightKs (-1) (Edit.kids e) ((d : Int) - 1)) else false)))], [], []⟩ : LSt U))) ∧ ((((Edit.kind e) : Int) == 2) = false → (((((Edit.kind e) : Int) == 3) = true → (pre48 ((Edit.list e), ())) ∧ ((decide (2 ≤ (Edit.list e) ∧ (Edit.list e) ≤ 9)) = true → (decide (2 ≤ (Edit.list e) ∧ (Edit.list e) ≤ 9)) = true) ∧ ((decide (2 ≤ (Edit.list e) ∧ (Edit.list e) ≤ 9)) = true → InR ((d : Int) - 1)) ∧ ((decide (2 ≤ (Edit.list e) ∧ (Edit.list e) ≤ 9)) = true → (decide (2 ≤ (Edit.list e) ∧ (Edit.list e) ≤ 9)) = true) ∧ ((decide (2 ≤ (Edit.list e) ∧ (Edit.list e) ≤ 9)) = true → (decide (2 ≤ (Edit.list e) ∧ (Edit.list e) ≤ 9)) = true) ∧ ((decide (2 ≤ (Edit.list e) ∧ (Edit.list e) ≤ 9)) = true → pre122 (y_1, ((d : Int) - 1), ())) ∧ ((decide (2 ≤ (Edit.list e) ∧ (Edit.list e) ≤ 9)) = true → mu122 (y_1, ((d : Int) - 1), ()) < N) ∧ (((decide (2 ≤ (Edit.list e) ∧ (Edit.list e) ≤ 9)) = true → (decide (2 ≤ (Edit.list e) ∧ (Edit.list e) ≤ 9)) = true)) ∧ (Q .ret (⟨[(4, .c (.bool (bif (decide (2 ≤ (Edit.list e) ∧ (Edit.list e) ≤ 9)) then (rightOs (Edit.list y_1) (Edit.ops y_1) ((d : Int) - 1) && decide (lenA (Edit.ops y_1) 0 < 1048576 ∧ lenB (Edit.ops y_1) 0 < 1048576)) else false)))], [], []⟩ : LSt U))) ∧ ((((Edit.kind e) : Int) == 3) = false → (Q .ret (⟨[(4, .c (.bool false))], [], []⟩ : LSt U))))))))))))))) := by kernel_rfl
  exact e_.mpr (by intro y_1 y_2 y_3; exact ⟨(h y_1 (reEdit_eq _) y_2 (reTree_eq _) y_3 (reTree_eq _)).1, fun x => x, (by generalize (bareE y_1) = b0; revert b0; decide), ⟨fun c_1 => ((h y_1 (reEdit_eq _) y_2 (reTree_eq _) y_3 (reTree_eq _)).2.1 c_1), fun c_1 => ⟨fun c_2 => (((h y_1 (reEdit_eq _) y_2 (reTree_eq _) y_3 (reTree_eq _)).2.2 c_1).1 c_2), fun c_2 => ⟨fun c_3 => ⟨((((h y_1 (reEdit_eq _) y_2 (reTree_eq _) y_3 (reTree_eq _)).2.2 c_1).2 c_2).1 c_3).1, fun x => x, fun x => x, ((((h y_1 (reEdit_eq _) y_2 (reTree_eq _) y_3 (reTree_eq _)).2.2 c_1).2 c_2).1 c_3).2.1, (by generalize (decide (Tree.kind y_3 ≠ 10)) = b0; generalize (rightT y_3 64) = b1; revert b0 b1; decide), ((((h y_1 (reEdit_eq _) y_2 (reTree_eq _) y_3 (reTree_eq _)).2.2 c_1).2 c_2).1 c_3).2.2⟩, fun c_3 => ⟨fun c_4 => ⟨(((((h y_1 (reEdit_eq _) y_2 (reTree_eq _) y_3 (reTree_eq _)).2.2 c_1).2 c_2).2 c_3).1 c_4).1, fun x => x, fun x => x, (((((h y_1 (reEdit_eq _) y_2 (reTree_eq _) y_3 (reTree_eq _)).2.2 c_1).2 c_2).2 c_3).1 c_4).2.1, fun x => x, fun x => x, (((((h y_1 (reEdit_eq _) y_2 (reTree_eq _) y_3 (reTree_eq _)).2.2 c_1).2 c_2).2 c_3).1 c_4).2.2.1, (((((h y_1 (reEdit_eq _) y_2 (reTree_eq _) y_3 (reTree_eq _)).2.2 c_1).2 c_2).2 c_3).1 c_4).2.2.2.1, (by generalize (wordsOk (-1) (Edit.words e)) = b0; revert b0; decide), (((((h y_1 (reEdit_eq _) y_2 (reTree_eq _) y_3 (reTree_eq _)).2.2 c_1).2 c_2).2 c_3).1 c_4).2.2.2.2⟩, fun c_4 => ⟨fun c_5 => ⟨((((((h y_1 (reEdit_eq _) y_2 (reTree_eq _) y_3 (reTree_eq _)).2.2 c_1).2 c_2).2 c_3).2 c_4).1 c_5).1, fun x => x, ((((((h y_1 (reEdit_eq _) y_2 (reTree_eq _) y_3 (reTree_eq _)).2.2 c_1).2 c_2).2 c_3).2 c_4).1 c_5).2.1, fun x => x, fun x => x, ((((((h y_1 (reEdit_eq _) y_2 (reTree_eq _) y_3 (reTree_eq _)).2.2 c_1).2 c_2).2 c_3).2 c_4).1 c_5).2.2.1, ((((((h y_1 (reEdit_eq _) y_2 (reTree_eq _) y_3 (reTree_eq _)).2.2 c_1).2 c_2).2 c_3).2 c_4).1 c_5).2.2.2.1, (by generalize (decide (2 ≤ (Edit.list e) ∧ (Edit.list e) ≤ 9)) = b0; revert b0; decide), ((((((h y_1 (reEdit_eq _) y_2 (reTree_eq _) y_3 (reTree_eq _)).2.2 c_1).2 c_2).2 c_3).2 c_4).1 c_5).2.2.2.2⟩, fun c_5 => ((((((h y_1 (reEdit_eq _) y_2 (reTree_eq _) y_3 (reTree_eq _)).2.2 c_1).2 c_2).2 c_3).2 c_4).2 c_5)⟩⟩⟩⟩⟩⟩)
def Body87 (N : Nat) (e : Edit) (d : Int)  : Prop := awp cfg (know (know87 N)) (drawOk cfg (know (know87 N))) Try.f87.ntmps lv87 (cd Try.f87 []) (entry (args87.can (e, d, ())) []) (EndsQ cfg Try.f87.ntmps Try.f87.results.toList (res87 (e, d, ())) [])
abbrev HB87 : Prop := ∀ (N : Nat) (e : Edit) (d : Int) (_ : Unit), pre87 (e, d, ()) → mu87 (e, d, ()) < N + 1 → Body87 N e d

/-! cento/edit.kids -/
noncomputable def know121 (N : Nat) : List (FuncId × Fs U) := (87, fs args87 (fun a => [pre87 a, mu87 a < N]) res87) :: (121, fs args121 (fun a => [pre121 a, mu121 a < N]) res121) :: (122, fs args122 (fun a => [pre122 a, mu122 a < N]) res122) :: (132, fs args132 (fun a => [pre132 a, mu132 a < N]) res132) :: [(118, spec118), (119, spec119), (120, spec120), (48, spec48), (135, spec135), (138, spec138), (56, spec56)]
def lv121 : Lives U := fun i => match i with
  | 0 => ([(0, []), (1, [])], [])
  | 1 => ([(0, []), (1, []), (7, []), (8, []), (9, [])], [])
  | 2 => ([(0, []), (1, []), (7, []), (8, []), (9, []), (10, [])], [])
  | 3 => ([(0, []), (1, []), (5, []), (6, []), (7, []), (8, []), (9, [])], [((.loc 6), [])])
  | 4 => ([(0, []), (1, []), (7, []), (8, []), (9, []), (49, [])], [])
  | 5 => ([(4, [])], [])
  | 6 => ([(0, []), (1, []), (7, []), (8, []), (9, [])], [])
  | 7 => ([(4, [])], [])
  | _ => ([], [])
def head121_0 (l : List Kid) (d : Int) (x9 : Int) : LSt U := (⟨[(0, .c (.slice (U := U) .kid l .unk)), (1, .c (.int .i64 d)), (7, .c (.slice (U := U) .kid l .unk)), (8, .c (.int .i64 (l.length : Int))), (9, .c (.int .i64 x9))], [], []⟩ : LSt U)
abbrev W121 (N : Nat) (l : List Kid) (d : Int) (Q : AExit → LSt U → Prop) : Prop := awp cfg (know (know121 N)) (drawOk cfg (know (know121 N))) Try.f121.ntmps lv121 (cd Try.f121 []) (⟨[(0, .c (.slice (U := U) .kid l .unk)), (1, .c (.int .i64 d))], [], []⟩ : LSt U) Q
/-- the body -/
theorem vc121 (N : Nat) (l : List Kid) (d : Int) (Q : AExit → LSt U → Prop) (h : LoopWp (awp cfg (know (know121 N)) (drawOk cfg (know (know121 N))) Try.f121.ntmps lv121 (cd Try.f121 [1, 0, 1, 0, 0])) (head121_0 l d 0) (AExit.inBlock 0 (seqK cfg (know (know121 N)) (drawOk cfg (know (know121 N))) Try.f121.ntmps lv121 (cd Try.f121 [1, 1]) Q))) :
    W121 N l d Q := by
  have e_ : (awp cfg (know (know121 N)) (drawOk cfg (know (know121 N))) Try.f121.ntmps lv121 (cd Try.f121 []) (⟨[(0, .c (.slice (U := U) .kid l .unk)), (1, .c (.int .i64 d))], [], []⟩ : LSt U) Q) = (((LoopWp (awp cfg (know (know121 N)) (drawOk cfg (know (know121 N))) Try.f121.ntmps lv121 (cd Try.f121 [1, 0, 1, 0, 0])) (head121_0 l d 0) (AExit.inBlock 0 (seqK cfg (know (know121 N)) (drawOk cfg (know (know121 N))) Try.f121.ntmps lv121 (cd Try.f121 [1, 1]) Q))))) := by kernel_rfl
  exact e_.mpr h
abbrev W121_l0 (N : Nat) (l : List Kid) (d : Int) (x9 : Int) (N0 : LSt U → Prop) (Q : AExit → LSt U → Prop) : Prop := awp cfg (know (know121 N)) (drawOk cfg (know (know121 N))) Try.f121.ntmps lv121 (cd Try.f121 [1, 0, 1, 0, 0]) (head121_0 l d x9) (AExit.then N0 (AExit.inBlock 0 (seqK cfg (know (know121 N)) (drawOk cfg (know (know121 N))) Try.f121.ntmps lv121 (cd Try.f121 [1, 1]) Q)))
/-- the loop at [1, 0, 1, 0] -/
theorem vc121_l0 (N : Nat) (l : List Kid) (d : Int) (x9 : Int) (N0 : LSt U → Prop) (Q : AExit → LSt U → Prop) (h : ∀ y_1, y_1 = (List.getD l (Int.toNat x9) (KidOf.mk 0 Edit.nil)) → ∀ y_2, y_2 = (List.getD l (Int.toNat ((x9 : Int) - 1)) (KidOf.mk 0 Edit.nil)) → ∀ y_3, y_3 = ((KidOf.e y_1)) → ((decide ((x9 : Int) < (l.length : Int))) = true → ((0 : Int) ≤ x9 ∧ x9 < (l.length : Int)) ∧ ((((!(bif (decide (((KidOf.at_ y_1) : Int) < 0)) then true else (decide ((65535 : Int) ≤ (KidOf.at_ y_1))))) && (decide ((0 : Int) < x9))) = true → InR ((x9 : Int) - 1)) ∧ (((!(bif (decide (((KidOf.at_ y_1) : Int) < 0)) then true else (decide ((65535 : Int) ≤ (KidOf.at_ y_1))))) && (decide ((0 : Int) < x9))) = true → (0 : Int) ≤ ((x9 : Int) - 1) ∧ ((x9 : Int) - 1) < (l.length : Int)) ∧ ((!(bif (bif (bif (decide (((KidOf.at_ y_1) : Int) < 0)) then true else (decide ((65535 : Int) ≤ (KidOf.at_ y_1)))) then true else (bif (decide ((0 : Int) < x9)) then (decide (((KidOf.at_ y_1) : Int) ≤ (KidOf.at_ y_2))) else false)) then true else (((Edit.kind (KidOf.e y_1)) : Int) == 0))) = true → pre87 (y_3, d, ())) ∧ ((!(bif (bif (bif (decide (((KidOf.at_ y_1) : Int) < 0)) then true else (decide ((65535 : Int) ≤ (KidOf.at_ y_1)))) then true else (bif (decide ((0 : Int) < x9)) then (decide (((KidOf.at_ y_1) : Int) ≤ (KidOf.at_ y_2))) else false)) then true else (((Edit.kind (KidOf.e y_1)) : Int) == 0))) = true → mu87 (y_3, d, ()) < N) ∧ (((bif (bif (bif (bif (decide (((KidOf.at_ y_1) : Int) < 0)) then true else (decide ((65535 : Int) ≤ (KidOf.at_ y_1)))) then true else (bif (decide ((0 : Int) < x9)) then (decide (((KidOf.at_ y_1) : Int) ≤ (KidOf.at_ y_2))) else false)) then true else (((Edit.kind (KidOf.e y_1)) : Int) == 0)) then true else (!(rightE y_3 d))) = true → Q .ret (⟨[(4, .c (.bool false))], [], []⟩ : LSt U)) ∧ ((bif (bif (bif (bif (decide (((KidOf.at_ y_1) : Int) < 0)) then true else (decide ((65535 : Int) ≤ (KidOf.at_ y_1)))) then true else (bif (decide ((0 : Int) < x9)) then (decide (((KidOf.at_ y_1) : Int) ≤ (KidOf.at_ y_2))) else false)) then true else (((Edit.kind (KidOf.e y_1)) : Int) == 0)) then true else (!(rightE y_3 d))) = false → (InR ((x9 : Int) + 1)) ∧ (N0 (head121_0 l d ((x9 : Int) + 1))))))) ∧ ((decide ((x9 : Int) < (l.length : Int))) = false → Q .ret (⟨[(4, .c (.bool true))], [], []⟩ : LSt U))) :
    W121_l0 N l d x9 N0 Q := by
  have e_ : (awp cfg (know (know121 N)) (drawOk cfg (know (know121 N))) Try.f121.ntmps lv121 (cd Try.f121 [1, 0, 1, 0, 0]) (head121_0 l d x9) (AExit.then N0 (AExit.inBlock 0 (seqK cfg (know (know121 N)) (drawOk cfg (know (know121 N))) Try.f121.ntmps lv121 (cd Try.f121 [1, 1]) Q)))) = (let y_1 := (List.getD l (Int.toNat x9) (KidOf.mk 0 Edit.nil)); let y_2 := (List.getD l (Int.toNat ((x9 : Int) - 1)) (KidOf.mk 0 Edit.nil)); let y_3 := (reEdit (KidOf.e y_1)); (((decide ((x9 : Int) < (l.length : Int))) = true → ((0 : Int) ≤ x9 ∧ x9 < (l.length : Int)) ∧ (((!(decide (((KidOf.at_ y_1) : Int) < 0))) = true → (!(decide (((KidOf.at_ y_1) : Int) < 0))) = true) ∧ ((!(decide (((KidOf.at_ y_1) : Int) < 0))) = true → (!(decide (((KidOf.at_ y_1) : Int) < 0))) = true) ∧ (((decide (((KidOf.at_ y_1) : Int) < 0)) = false → (!(decide (((KidOf.at_ y_1) : Int) < 0))) = true)) ∧ ((!(bif (decide (((KidOf.at_ y_1) : Int) < 0)) then true else (decide ((65535 : Int) ≤ (KidOf.at_ y_1))))) = true → (!(bif (decide (((KidOf.at_ y_1) : Int) < 0)) then true else (decide ((65535 : Int) ≤ (KidOf.at_ y_1))))) = true) ∧ ((!(bif (decide (((KidOf.at_ y_1) : Int) < 0)) then true else (decide ((65535 : Int) ≤ (KidOf.at_ y_1))))) = true → (!(bif (decide (((KidOf.at_ y_1) : Int) < 0)) then true else (decide ((65535 : Int) ≤ (KidOf.at_ y_1))))) = true) ∧ (((!(bif (decide (((KidOf.at_ y_1) : Int) < 0)) then true else (decide ((65535 : Int) ≤ (KidOf.at_ y_1))))) && (decide ((0 : Int) < x9))) = true → ((!(bif (decide (((KidOf.at_ y_1) : Int) < 0)) then true else (decide ((65535 : Int) ≤ (KidOf.at_ y_1))))) && (decide ((0 : Int) < x9))) = true) ∧ (((!(bif (decide (((KidOf.at_ y_1) : Int) < 0)) then true else (decide ((65535 : Int) ≤ (KidOf.at_ y_1))))) && (decide ((0 : Int) < x9))) = true → InR ((x9 : Int) - 1)) ∧ (((!(bif (decide (((KidOf.at_ y_1) : Int) < 0)) then true else (decide ((65535 : Int) ≤ (KidOf.at_ y_1))))) && (decide ((0 : Int) < x9))) = true → ((!(bif (decide (((KidOf.at_ y_1) : Int) < 0)) then true else (decide ((65535 : Int) ≤ (KidOf.at_ y_1))))) && (decide ((0 : Int) < x9))) = true) ∧ (((!(bif (decide (((KidOf.at_ y_1) : Int) < 0)) then true else (decide ((65535 : Int) ≤ (KidOf.at_ y_1))))) && (decide ((0 : Int) < x9))) = true → ((!(bif (decide (((KidOf.at_ y_1) : Int) < 0)) then true else (decide ((65535 : Int) ≤ (KidOf.at_ y_1))))) && (decide ((0 : Int) < x9))) = true) ∧ (((!(bif (decide (((KidOf.at_ y_1) : Int) < 0)) then true else (decide ((65535 : Int) ≤ (KidOf.at_ y_1))))) && (decide ((0 : Int) < x9))) = true → (0 : Int) ≤ ((x9 : Int) - 1) ∧ ((x9 : Int) - 1) < (l.length : Int)) ∧ (((!(bif (decide (((KidOf.at_ y_1) : Int) < 0)) then true else (decide ((65535 : Int) ≤ (KidOf.at_ y_1))))) && (decide ((0 : Int) < x9))) = true → ((!(bif (decide (((KidOf.at_ y_1) : Int) < 0)) then true else (decide ((65535 : Int) ≤ (KidOf.at_ y_1))))) && (decide ((0 : Int) < x9))) = true) ∧ (((!(bif (decide (((KidOf.at_ y_1) : Int) < 0)) then true else (decide ((65535 : Int) ≤ (KidOf.at_ y_1))))) && (decide ((0 : Int) < x9))) = true → ((!(bif (decide (((KidOf.at_ y_1) : Int) < 0)) then true else (decide ((65535 : Int) ≤ (KidOf.at_ y_1))))) && (decide ((0 : Int) < x9))) = true) ∧ (((!(bif (decide (((KidOf.at_ y_1) : Int) < 0)) then true else (decide ((65535 : Int) ≤ (KidOf.at_ y_1))))) && (decide ((0 : Int) < x9))) = true → ((!(bif (decide (((KidOf.at_ y_1) : Int) < 0)) then true else (decide ((65535 : Int) ≤ (KidOf.at_ y_1))))) && (decide ((0 : Int) < x9))) = true) ∧ (((!(bif (decide (((KidOf.at_ y_1) : Int) < 0)) then true else (decide ((65535 : Int) ≤ (KidOf.at_ y_1))))) && (decide ((0 : Int) < x9))) = true → ((!(bif (decide (((KidOf.at_ y_1) : Int) < 0)) then true else (decide ((65535 : Int) ≤ (KidOf.at_ y_1))))) && (decide ((0 : Int) < x9))) = true) ∧ (((!(bif (decide (((KidOf.at_ y_1) : Int) < 0)) then true else (decide ((65535 : Int) ≤ (KidOf.at_ y_1))))) && (decide ((0 : Int) < x9))) = true → ((!(bif (decide (((KidOf.at_ y_1) : Int) < 0)) then true else (decide ((65535 : Int) ≤ (KidOf.at_ y_1))))) && (decide ((0 : Int) < x9))) = true) ∧ ((!(bif (decide (((KidOf.at_ y_1) : Int) < 0)) then true else (decide ((65535 : Int) ≤ (KidOf.at_ y_1))))) = true → (True → (!(bif (decide (((KidOf.at_ y_1) : Int) < 0)) then true else (decide ((65535 : Int) ≤ (KidOf.at_ y_1))))) = true)) ∧ ((!(bif (decide (((KidOf.at_ y_1) : Int) < 0)) then true else (decide ((65535 : Int) ≤ (KidOf.at_ y_1))))) = true → ((decide ((0 : Int) < x9)) = true → ((!(bif (decide (((KidOf.at_ y_1) : Int) < 0)) then true else (decide ((65535 : Int) ≤ (KidOf.at_ y_1))))) && (decide ((0 : Int) < x9))) = true)) ∧ (((bif (decide (((KidOf.at_ y_1) : Int) < 0)) then true else (decide ((65535 : Int) ≤ (KidOf.at_ y_1)))) = false → (!(bif (decide (((KidOf.at_ y_1) : Int) < 0)) then true else (decide ((65535 : Int) ≤ (KidOf.at_ y_1))))) = true)) ∧ ((!(bif (bif (decide (((KidOf.at_ y_1) : Int) < 0)) then true else (decide ((65535 : Int) ≤ (KidOf.at_ y_1)))) then true else (bif (decide ((0 : Int) < x9)) then (decide (((KidOf.at_ y_1) : Int) ≤ (KidOf.at_ y_2))) else false))) = true → (!(bif (bif (decide (((KidOf.at_ y_1) : Int) < 0)) then true else (decide ((65535 : Int) ≤ (KidOf.at_ y_1)))) then true else (bif (decide ((0 : Int) < x9)) then (decide (((KidOf.at_ y_1) : Int) ≤ (KidOf.at_ y_2))) else false))) = true) ∧ ((!(bif (bif (decide (((KidOf.at_ y_1) : Int) < 0)) then true else (decide ((65535 : Int) ≤ (KidOf.at_ y_1)))) then true else (bif (decide ((0 : Int) < x9)) then (decide (((KidOf.at_ y_1) : Int) ≤ (KidOf.at_ y_2))) else false))) = true → (!(bif (bif (decide (((KidOf.at_ y_1) : Int) < 0)) then true else (decide ((65535 : Int) ≤ (KidOf.at_ y_1)))) then true else (bif (decide ((0 : Int) < x9)) then (decide (((KidOf.at_ y_1) : Int) ≤ (KidOf.at_ y_2))) else false))) = true) ∧ ((!(bif (bif (decide (((KidOf.at_ y_1) : Int) < 0)) then true else (decide ((65535 : Int) ≤ (KidOf.at_ y_1)))) then true else (bif (decide ((0 : Int) < x9)) then (decide (((KidOf.at_ y_1) : Int) ≤ (KidOf.at_ y_2))) else false))) = true → (!(bif (bif (decide (((KidOf.at_ y_1) : Int) < 0)) then true else (decide ((65535 : Int) ≤ (KidOf.at_ y_1)))) then true else (bif (decide ((0 : Int) < x9)) then (decide (((KidOf.at_ y_1) : Int) ≤ (KidOf.at_ y_2))) else false))) = true) ∧ (((bif (bif (decide (((KidOf.at_ y_1) : Int) < 0)) then true else (decide ((65535 : Int) ≤ (KidOf.at_ y_1)))) then true else (bif (decide ((0 : Int) < x9)) then (decide (((KidOf.at_ y_1) : Int) ≤ (KidOf.at_ y_2))) else false)) = false → (!(bif (bif (decide (((KidOf.at_ y_1) : Int) < 0)) then true else (decide ((65535 : Int) ≤ (KidOf.at_ y_1)))) then true else (bif (decide ((0 : Int) < x9)) then (decide (((KidOf.at_ y_1) : Int) ≤ (KidOf.at_ y_2))) else false))) = true)) ∧ ((!(bif (bif (bif (decide (((KidOf.at_ y_1) : Int) < 0)) then true else (decide ((65535 : Int) ≤ (KidOf.at_ y_1)))) then true else (bif (decide ((0 : Int) < x9)) then (decide (((KidOf.at_ y_1) : Int) ≤ (KidOf.at_ y_2))) else false)) then true else (((Edit.kind (KidOf.e y_1)) : Int) == 0))) = true → (!(bif (bif (bif (decide (((KidOf.at_ y_1) : Int) < 0)) then true else (decide ((65535 : Int) ≤ (KidOf.at_ y_1)))) then true else (bif (decide ((0 : Int) < x9)) then (decide (((KidOf.at_ y_1) : Int) ≤ (KidOf.at_ y_2))) else false)) then true else (((Edit.kind (KidOf.e y_1)) : Int) == 0))) = true) ∧ ((!(bif (bif (bif (decide (((KidOf.at_ y_1) : Int) < 0)) then true else (decide ((65535 : Int) ≤ (KidOf.at_ y_1)))) then true else (bif (decide ((0 : Int) < x9)) then (decide (((KidOf.at_ y_1) : Int) ≤ (KidOf.at_ y_2))) else false)) then true else (((Edit.kind (KidOf.e y_1)) : Int) == 0))) = true → (!(bif (bif (bif (decide (((KidOf.at_ y_1) : Int) < 0)) then true else (decide ((65535 : Int) ≤ (KidOf.at_ y_1)))) then true else (bif (decide ((0 : Int) < x9)) then (decide (((KidOf.at_ y_1) : Int) ≤ (KidOf.at_ y_2))) else false)) then true else (((Edit.kind (KidOf.e y_1)) : Int) == 0))) = true) ∧ ((!(bif (bif (bif (decide (((KidOf.at_ y_1) : Int) < 0)) then true else (decide ((65535 : Int) ≤ (KidOf.at_ y_1)))) then true else (bif (decide ((0 : Int) < x9)) then (decide (((KidOf.at_ y_1) : Int) ≤ (KidOf.at_ y_2))) else false)) then true else (((Edit.kind (KidOf.e y_1)) : Int) == 0))) = true → (!(bif (bif (bif (decide (((KidOf.at_ y_1) : Int) < 0)) then true else (decide ((65535 : Int) ≤ (KidOf.at_ y_1)))) then true else (bif (decide ((0 : Int) < x9)) then (decide (((KidOf.at_ y_1) : Int) ≤ (KidOf.at_ y_2))) else false)) then true else (((Edit.kind (KidOf.e y_1)) : Int) == 0))) = true) ∧ ((!(bif (bif (bif (decide (((KidOf.at_ y_1) : Int) < 0)) then true else (decide ((65535 : Int) ≤ (KidOf.at_ y_1)))) then true else (bif (decide ((0 : Int) < x9)) then (decide (((KidOf.at_ y_1) : Int) ≤ (KidOf.at_ y_2))) else false)) then true else (((Edit.kind (KidOf.e y_1)) : Int) == 0))) = true → pre87 (y_3, d, ())) ∧ ((!(bif (bif (bif (decide (((KidOf.at_ y_1) : Int) < 0)) then true else (decide ((65535 : Int) ≤ (KidOf.at_ y_1)))) then true else (bif (decide ((0 : Int) < x9)) then (decide (((KidOf.at_ y_1) : Int) ≤ (KidOf.at_ y_2))) else false)) then true else (((Edit.kind (KidOf.e y_1)) : Int) == 0))) = true → mu87 (y_3, d, ()) < N) ∧ ((!(bif (bif (bif (decide (((KidOf.at_ y_1) : Int) < 0)) then true else (decide ((65535 : Int) ≤ (KidOf.at_ y_1)))) then true else (bif (decide ((0 : Int) < x9)) then (decide (((KidOf.at_ y_1) : Int) ≤ (KidOf.at_ y_2))) else false)) then true else (((Edit.kind (KidOf.e y_1)) : Int) == 0))) = true → (!(bif (bif (bif (decide (((KidOf.at_ y_1) : Int) < 0)) then true else (decide ((65535 : Int) ≤ (KidOf.at_ y_1)))) then true else (bif (decide ((0 : Int) < x9)) then (decide (((KidOf.at_ y_1) : Int) ≤ (KidOf.at_ y_2))) else false)) then true else (((Edit.kind (KidOf.e y_1)) : Int) == 0))) = true) ∧ (((bif (bif (bif (decide (((KidOf.at_ y_1) : Int) < 0)) then true else (decide ((65535 : Int) ≤ (KidOf.at_ y_1)))) then true else (bif (decide ((0 : Int) < x9)) then (decide (((KidOf.at_ y_1) : Int) ≤ (KidOf.at_ y_2))) else false)) then true else (((Edit.kind (KidOf.e y_1)) : Int) == 0)) = false → (!(bif (bif (bif (decide (((KidOf.at_ y_1) : Int) < 0)) then true else (decide ((65535 : Int) ≤ (KidOf.at_ y_1)))) then true else (bif (decide ((0 : Int) < x9)) then (decide (((KidOf.at_ y_1) : Int) ≤ (KidOf.at_ y_2))) else false)) then true else (((Edit.kind (KidOf.e y_1)) : Int) == 0))) = true)) ∧ (((bif (bif (bif (bif (decide (((KidOf.at_ y_1) : Int) < 0)) then true else (decide ((65535 : Int) ≤ (KidOf.at_ y_1)))) then true else (bif (decide ((0 : Int) < x9)) then (decide (((KidOf.at_ y_1) : Int) ≤ (KidOf.at_ y_2))) else false)) then true else (((Edit.kind (KidOf.e y_1)) : Int) == 0)) then true else (!(rightE y_3 d))) = true → (Q .ret (⟨[(4, .c (.bool false))], [], []⟩ : LSt U))) ∧ ((bif (bif (bif (bif (decide (((KidOf.at_ y_1) : Int) < 0)) then true else (decide ((65535 : Int) ≤ (KidOf.at_ y_1)))) then true else (bif (decide ((0 : Int) < x9)) then (decide (((KidOf.at_ y_1) : Int) ≤ (KidOf.at_ y_2))) else false)) then true else (((Edit.kind (KidOf.e y_1)) : Int) == 0)) then true else (!(rightE y_3 d))) = false → (InR ((x9 : Int) + 1)) ∧ (N0 (head121_0 l d ((x9 : Int) + 1))))))) ∧ ((decide ((x9 : Int) < (l.length : Int))) = false → (Q .ret (⟨[(4, .c (.bool true))], [], []⟩ : LSt U))))) := by kernel_rfl
  exact e_.mpr (by intro y_1 y_2 y_3; exact ⟨fun c_6 => ⟨((h y_1 rfl y_2 rfl y_3 (reEdit_eq _)).1 c_6).1, ⟨fun x => x, fun x => x, (by generalize (decide (((KidOf.at_ y_1) : Int) < 0)) = b0; revert b0; decide), fun x => x, fun x => x, fun x => x, ((h y_1 rfl y_2 rfl y_3 (reEdit_eq _)).1 c_6).2.1, fun x => x, fun x => x, ((h y_1 rfl y_2 rfl y_3 (reEdit_eq _)).1 c_6).2.2.1, fun x => x, fun x => x, fun x => x, fun x => x, fun x => x, (by generalize (decide ((65535 : Int) ≤ (KidOf.at_ y_1))) = b0; generalize (decide (((KidOf.at_ y_1) : Int) < 0)) = b1; revert b0 b1; decide), (by generalize (decide ((65535 : Int) ≤ (KidOf.at_ y_1))) = b0; generalize (decide (((KidOf.at_ y_1) : Int) < 0)) = b1; generalize (decide ((0 : Int) < x9)) = b2; revert b0 b1 b2; decide), (by generalize (decide ((65535 : Int) ≤ (KidOf.at_ y_1))) = b0; generalize (decide (((KidOf.at_ y_1) : Int) < 0)) = b1; revert b0 b1; decide), fun x => x, fun x => x, fun x => x, (by generalize (decide (((KidOf.at_ y_1) : Int) ≤ (KidOf.at_ y_2))) = b0; generalize (decide ((65535 : Int) ≤ (KidOf.at_ y_1))) = b1; generalize (decide (((KidOf.at_ y_1) : Int) < 0)) = b2; generalize (decide ((0 : Int) < x9)) = b3; revert b0 b1 b2 b3; decide), fun x => x, fun x => x, fun x => x, ((h y_1 rfl y_2 rfl y_3 (reEdit_eq _)).1 c_6).2.2.2.1, ((h y_1 rfl y_2 rfl y_3 (reEdit_eq _)).1 c_6).2.2.2.2.1, fun x => x, (by generalize (decide (((KidOf.at_ y_1) : Int) ≤ (KidOf.at_ y_2))) = b0; generalize (decide ((65535 : Int) ≤ (KidOf.at_ y_1))) = b1; generalize (((Edit.kind (KidOf.e y_1)) : Int) == 0) = b2; generalize (decide (((KidOf.at_ y_1) : Int) < 0)) = b3; generalize (decide ((0 : Int) < x9)) = b4; revert b0 b1 b2 b3 b4; decide), ⟨fun c_7 => (((h y_1 rfl y_2 rfl y_3 (reEdit_eq _)).1 c_6).2.2.2.2.2.1 c_7), fun c_7 => ⟨(((h y_1 rfl y_2 rfl y_3 (reEdit_eq _)).1 c_6).2.2.2.2.2.2 c_7).1, (((h y_1 rfl y_2 rfl y_3 (reEdit_eq _)).1 c_6).2.2.2.2.2.2 c_7).2⟩⟩⟩⟩, fun c_6 => ((h y_1 rfl y_2 rfl y_3 (reEdit_eq _)).2 c_6)⟩)
def Body121 (N : Nat) (l : List Kid) (d : Int)  : Prop := awp cfg (know (know121 N)) (drawOk cfg (know (know121 N))) Try.f121.ntmps lv121 (cd Try.f121 []) (entry (args121.can (l, d, ())) []) (EndsQ cfg Try.f121.ntmps Try.f121.results.toList (res121 (l, d, ())) [])
abbrev HB121 : Prop := ∀ (N : Nat) (l : List Kid) (d : Int) (_ : Unit), pre121 (l, d, ()) → mu121 (l, d, ()) < N + 1 → Body121 N l d

/-! cento/edit.ops -/
noncomputable def know122 (N : Nat) : List (FuncId × Fs U) := (87, fs args87 (fun a => [pre87 a, mu87 a < N]) res87) :: (121, fs args121 (fun a => [pre121 a, mu121 a < N]) res121) :: (122, fs args122 (fun a => [pre122 a, mu122 a < N]) res122) :: (132, fs args132 (fun a => [pre132 a, mu132 a < N]) res132) :: [(118, spec118), (119, spec119), (120, spec120), (48, spec48), (135, spec135), (138, spec138), (56, spec56)]
def lv122 : Lives U := fun i => match i with
  | 0 => ([(1, []), (2, [])], [((.loc 2), [])])
  | 1 => ([(1, []), (2, []), (10, []), (11, []), (12, [])], [((.loc 2), [])])
  | 2 => ([(1, []), (2, []), (10, []), (11, []), (12, []), (13, [])], [((.loc 2), [])])
  | 3 => ([(1, []), (2, []), (6, []), (10, []), (11, []), (12, [])], [((.loc 2), []), ((.loc 6), [])])
  | 4 => ([(1, []), (2, []), (10, []), (11, []), (12, []), (21, [])], [((.loc 2), [])])
  | 5 => ([(4, [])], [])
  | 6 => ([(1, []), (2, []), (10, []), (11, []), (12, [])], [((.loc 2), [])])
  | 7 => ([(7, []), (8, [])], [])
  | 8 => ([(4, [])], [])
  | _ => ([], [])
def head122_0 (e : Edit) (d : Int) (x12 : Int) : LSt U := (⟨[(1, .c (.int .i64 d)), (2, .ptr (.loc 2) 0), (10, .c (.slice (U := U) .op (Edit.ops e) .unk)), (11, .c (.int .i64 ((Edit.ops e).length : Int))), (12, .c (.int .i64 x12))], [((.loc 2), [.int .i64 (Edit.kind e), .int .i64 (Tree.kind (Edit.old e)), .slice (U := U) .u64 (Tree.words (Edit.old e)) .unk, .slice (U := U) .tree (Tree.kids (Edit.old e)) .unk, .int .i64 (Tree.kind (Edit.new e)), .slice (U := U) .u64 (Tree.words (Edit.new e)) .unk, .slice (U := U) .tree (Tree.kids (Edit.new e)) .unk, .slice (U := U) .wedit (Edit.words e) .unk, .slice (U := U) .kid (Edit.kids e) .unk, .int .i64 (Edit.list e), .slice (U := U) .op (Edit.ops e) .unk])], []⟩ : LSt U)
abbrev W122 (N : Nat) (e : Edit) (d : Int) (Q : AExit → LSt U → Prop) : Prop := awp cfg (know (know122 N)) (drawOk cfg (know (know122 N))) Try.f122.ntmps lv122 (cd Try.f122 []) (⟨[(0, .agg [.int .i64 (Edit.kind e), .int .i64 (Tree.kind (Edit.old e)), .slice (U := U) .u64 (Tree.words (Edit.old e)) .unk, .slice (U := U) .tree (Tree.kids (Edit.old e)) .unk, .int .i64 (Tree.kind (Edit.new e)), .slice (U := U) .u64 (Tree.words (Edit.new e)) .unk, .slice (U := U) .tree (Tree.kids (Edit.new e)) .unk, .slice (U := U) .wedit (Edit.words e) .unk, .slice (U := U) .kid (Edit.kids e) .unk, .int .i64 (Edit.list e), .slice (U := U) .op (Edit.ops e) .unk]), (1, .c (.int .i64 d))], [], []⟩ : LSt U) Q
/-- the body -/
theorem vc122 (N : Nat) (e : Edit) (d : Int) (Q : AExit → LSt U → Prop) (h : LoopWp (awp cfg (know (know122 N)) (drawOk cfg (know (know122 N))) Try.f122.ntmps lv122 (cd Try.f122 [1, 0, 1, 0, 0])) (head122_0 e d 0) (AExit.inBlock 0 (seqK cfg (know (know122 N)) (drawOk cfg (know (know122 N))) Try.f122.ntmps lv122 (cd Try.f122 [1, 1]) Q))) :
    W122 N e d Q := by
  have e_ : (awp cfg (know (know122 N)) (drawOk cfg (know (know122 N))) Try.f122.ntmps lv122 (cd Try.f122 []) (⟨[(0, .agg [.int .i64 (Edit.kind e), .int .i64 (Tree.kind (Edit.old e)), .slice (U := U) .u64 (Tree.words (Edit.old e)) .unk, .slice (U := U) .tree (Tree.kids (Edit.old e)) .unk, .int .i64 (Tree.kind (Edit.new e)), .slice (U := U) .u64 (Tree.words (Edit.new e)) .unk, .slice (U := U) .tree (Tree.kids (Edit.new e)) .unk, .slice (U := U) .wedit (Edit.words e) .unk, .slice (U := U) .kid (Edit.kids e) .unk, .int .i64 (Edit.list e), .slice (U := U) .op (Edit.ops e) .unk]), (1, .c (.int .i64 d))], [], []⟩ : LSt U) Q) = (((LoopWp (awp cfg (know (know122 N)) (drawOk cfg (know (know122 N))) Try.f122.ntmps lv122 (cd Try.f122 [1, 0, 1, 0, 0])) (head122_0 e d 0) (AExit.inBlock 0 (seqK cfg (know (know122 N)) (drawOk cfg (know (know122 N))) Try.f122.ntmps lv122 (cd Try.f122 [1, 1]) Q))))) := by kernel_rfl
  exact e_.mpr h
abbrev W122_l0 (N : Nat) (e : Edit) (d : Int) (x12 : Int) (N0 : LSt U → Prop) (Q : AExit → LSt U → Prop) : Prop := awp cfg (know (know122 N)) (drawOk cfg (know (know122 N))) Try.f122.ntmps lv122 (cd Try.f122 [1, 0, 1, 0, 0]) (head122_0 e d x12) (AExit.then N0 (AExit.inBlock 0 (seqK cfg (know (know122 N)) (drawOk cfg (know (know122 N))) Try.f122.ntmps lv122 (cd Try.f122 [1, 1]) Q)))
/-- the loop at [1, 0, 1, 0] -/
theorem vc122_l0 (N : Nat) (e : Edit) (d : Int) (x12 : Int) (N0 : LSt U → Prop) (Q : AExit → LSt U → Prop) (h : ∀ y_1, y_1 = (e) → ∀ y_2, y_2 = (List.getD (Edit.ops e) (Int.toNat x12) Op.nil) → ∀ y_3, y_3 = (y_2) → ((decide ((x12 : Int) < ((Edit.ops e).length : Int))) = true → ((0 : Int) ≤ x12 ∧ x12 < ((Edit.ops e).length : Int)) ∧ ((pre132 ((Edit.list e), y_3, d, ())) ∧ (mu132 ((Edit.list e), y_3, d, ()) < N) ∧ (((!(rightOp (Edit.list e) y_3 d)) = true → Q .ret (⟨[(4, .c (.bool false))], [], []⟩ : LSt U)) ∧ ((!(rightOp (Edit.list e) y_3 d)) = false → (InR ((x12 : Int) + 1)) ∧ (N0 (head122_0 e d ((x12 : Int) + 1))))))) ∧ ((decide ((x12 : Int) < ((Edit.ops e).length : Int))) = false → (pre56 (y_1, ())) ∧ (Q .ret (⟨[(4, .c (.bool (bif (decide (((lenAW (Edit.ops y_1) 0) : Int) < 1048576)) then (decide (((lenBW (Edit.ops y_1) 0) : Int) < 1048576)) else false)))], [], []⟩ : LSt U)))) :
    W122_l0 N e d x12 N0 Q := by
  have e_ : (awp cfg (know (know122 N)) (drawOk cfg (know (know122 N))) Try.f122.ntmps lv122 (cd Try.f122 [1, 0, 1, 0, 0]) (head122_0 e d x12) (AExit.then N0 (AExit.inBlock 0 (seqK cfg (know (know122 N)) (drawOk cfg (know (know122 N))) Try.f122.ntmps lv122 (cd Try.f122 [1, 1]) Q)))) = (let y_1 := (reEdit e); let y_2 := (List.getD (Edit.ops e) (Int.toNat x12) Op.nil); let y_3 := (reOp y_2); (((decide ((x12 : Int) < ((Edit.ops e).length : Int))) = true → ((0 : Int) ≤ x12 ∧ x12 < ((Edit.ops e).length : Int)) ∧ ((pre132 ((Edit.list e), y_3, d, ())) ∧ (mu132 ((Edit.list e), y_3, d, ()) < N) ∧ (((!(rightOp (Edit.list e) y_3 d)) = true → (Q .ret (⟨[(4, .c (.bool false))], [], []⟩ : LSt U))) ∧ ((!(rightOp (Edit.list e) y_3 d)) = false → (InR ((x12 : Int) + 1)) ∧ (N0 (head122_0 e d ((x12 : Int) + 1))))))) ∧ ((decide ((x12 : Int) < ((Edit.ops e).length : Int))) = false → (pre56 (y_1, ())) ∧ (((decide (((lenAW (Edit.ops y_1) 0) : Int) < 1048576)) = true → (decide (((lenAW (Edit.ops y_1) 0) : Int) < 1048576)) = true) ∧ (((decide (((lenAW (Edit.ops y_1) 0) : Int) < 1048576)) = true → (decide (((lenAW (Edit.ops y_1) 0) : Int) < 1048576)) = true)) ∧ (Q .ret (⟨[(4, .c (.bool (bif (decide (((lenAW (Edit.ops y_1) 0) : Int) < 1048576)) then (decide (((lenBW (Edit.ops y_1) 0) : Int) < 1048576)) else false)))], [], []⟩ : LSt U)))))) := by kernel_rfl
  exact e_.mpr (by intro y_1 y_2 y_3; exact ⟨fun c_8 => ⟨((h y_1 (reEdit_eq _) y_2 rfl y_3 (reOp_eq _)).1 c_8).1, ⟨((h y_1 (reEdit_eq _) y_2 rfl y_3 (reOp_eq _)).1 c_8).2.1, ((h y_1 (reEdit_eq _) y_2 rfl y_3 (reOp_eq _)).1 c_8).2.2.1, ⟨fun c_9 => (((h y_1 (reEdit_eq _) y_2 rfl y_3 (reOp_eq _)).1 c_8).2.2.2.1 c_9), fun c_9 => ⟨(((h y_1 (reEdit_eq _) y_2 rfl y_3 (reOp_eq _)).1 c_8).2.2.2.2 c_9).1, (((h y_1 (reEdit_eq _) y_2 rfl y_3 (reOp_eq _)).1 c_8).2.2.2.2 c_9).2⟩⟩⟩⟩, fun c_8 => ⟨((h y_1 (reEdit_eq _) y_2 rfl y_3 (reOp_eq _)).2 c_8).1, ⟨fun x => x, (by generalize (decide (((lenAW (Edit.ops y_1) 0) : Int) < 1048576)) = b0; revert b0; decide), ((h y_1 (reEdit_eq _) y_2 rfl y_3 (reOp_eq _)).2 c_8).2⟩⟩⟩)
def Body122 (N : Nat) (e : Edit) (d : Int)  : Prop := awp cfg (know (know122 N)) (drawOk cfg (know (know122 N))) Try.f122.ntmps lv122 (cd Try.f122 []) (entry (args122.can (e, d, ())) []) (EndsQ cfg Try.f122.ntmps Try.f122.results.toList (res122 (e, d, ())) [])
abbrev HB122 : Prop := ∀ (N : Nat) (e : Edit) (d : Int) (_ : Unit), pre122 (e, d, ()) → mu122 (e, d, ()) < N + 1 → Body122 N e d

/-! cento/edit.op -/
noncomputable def know132 (N : Nat) : List (FuncId × Fs U) := (87, fs args87 (fun a => [pre87 a, mu87 a < N]) res87) :: (121, fs args121 (fun a => [pre121 a, mu121 a < N]) res121) :: (122, fs args122 (fun a => [pre122 a, mu122 a < N]) res122) :: (132, fs args132 (fun a => [pre132 a, mu132 a < N]) res132) :: [(118, spec118), (119, spec119), (120, spec120), (48, spec48), (135, spec135), (138, spec138), (56, spec56)]
def lv132 : Lives U := fun i => match i with
  | 0 => ([(2, []), (3, []), (4, [])], [((.loc 3), []), ((.loc 4), [])])
  | 1 => ([(2, []), (3, []), (4, []), (8, [])], [((.loc 3), []), ((.loc 4), [])])
  | 2 => ([(2, []), (3, []), (4, []), (8, []), (9, [])], [((.loc 3), []), ((.loc 4), [])])
  | 3 => ([(2, []), (3, []), (4, []), (8, []), (11, [])], [((.loc 3), []), ((.loc 4), [])])
  | 4 => ([(2, []), (3, []), (4, []), (8, []), (13, [])], [((.loc 3), []), ((.loc 4), [])])
  | 5 => ([(2, []), (3, []), (4, []), (15, [])], [((.loc 3), []), ((.loc 4), [])])
  | 6 => ([(6, [])], [])
  | 7 => ([(6, [])], [])
  | 8 => ([(6, [])], [])
  | 9 => ([(6, [])], [])
  | _ => ([], [])
abbrev W132 (N : Nat) (list : Int) (o : Op) (d : Int) (Q : AExit → LSt U → Prop) : Prop := awp cfg (know (know132 N)) (drawOk cfg (know (know132 N))) Try.f132.ntmps lv132 (cd Try.f132 []) (⟨[(0, .c (.int .i64 list)), (1, .agg [.int .i64 (OpOf.kind o), .int .i64 (OpOf.n o), .slice (U := U) .tree (OpOf.l o) .unk, .int .i64 (Edit.kind (OpOf.e o)), .int .i64 (Tree.kind (Edit.old (OpOf.e o))), .slice (U := U) .u64 (Tree.words (Edit.old (OpOf.e o))) .unk, .slice (U := U) .tree (Tree.kids (Edit.old (OpOf.e o))) .unk, .int .i64 (Tree.kind (Edit.new (OpOf.e o))), .slice (U := U) .u64 (Tree.words (Edit.new (OpOf.e o))) .unk, .slice (U := U) .tree (Tree.kids (Edit.new (OpOf.e o))) .unk, .slice (U := U) .wedit (Edit.words (OpOf.e o)) .unk, .slice (U := U) .kid (Edit.kids (OpOf.e o)) .unk, .int .i64 (Edit.list (OpOf.e o)), .slice (U := U) .op (Edit.ops (OpOf.e o)) .unk]), (2, .c (.int .i64 d))], [], []⟩ : LSt U) Q
/-- the body -/
theorem vc132 (N : Nat) (list : Int) (o : Op) (d : Int) (Q : AExit → LSt U → Prop) (h : ∀ y_1, y_1 = ((OpOf.e o)) → ∀ y_2, y_2 = (.bool (bif (bif (bif (bif (((OpOf.n o) : Int) == 0) then (decide ((0 : Int) < ((OpOf.l o).length : Int))) else false) then (rightE y_1 1) else false) then (((Edit.kind (OpOf.e o)) : Int) == 0) else false) then (!(!(treesOk list (OpOf.l o)))) else false)) → ((((OpOf.kind o) : Int) == 0) = true → ((bif (bif (decide ((1 : Int) ≤ (OpOf.n o))) then (decide (((OpOf.n o) : Int) ≤ 1048576)) else false) then ((((OpOf.l o).length : Int) : Int) == 0) else false) = true → pre87 (y_1, 1, ())) ∧ ((bif (bif (decide ((1 : Int) ≤ (OpOf.n o))) then (decide (((OpOf.n o) : Int) ≤ 1048576)) else false) then ((((OpOf.l o).length : Int) : Int) == 0) else false) = true → mu87 (y_1, 1, ()) < N) ∧ (Q .ret (⟨[(6, .c (.bool (bif (bif (bif (bif (decide ((1 : Int) ≤ (OpOf.n o))) then (decide (((OpOf.n o) : Int) ≤ 1048576)) else false) then ((((OpOf.l o).length : Int) : Int) == 0) else false) then (rightE y_1 1) else false) then (((Edit.kind (OpOf.e o)) : Int) == 0) else false)))], [], []⟩ : LSt U))) ∧ ((((OpOf.kind o) : Int) == 0) = false → ((((OpOf.kind o) : Int) == 1) = true → ((bif (((OpOf.n o) : Int) == 0) then (decide ((0 : Int) < ((OpOf.l o).length : Int))) else false) = true → pre87 (y_1, 1, ())) ∧ ((bif (((OpOf.n o) : Int) == 0) then (decide ((0 : Int) < ((OpOf.l o).length : Int))) else false) = true → mu87 (y_1, 1, ()) < N) ∧ ((bif (bif (bif (((OpOf.n o) : Int) == 0) then (decide ((0 : Int) < ((OpOf.l o).length : Int))) else false) then (rightE y_1 1) else false) then (((Edit.kind (OpOf.e o)) : Int) == 0) else false) = true → pre135 ((OpOf.l o), (list, ()), ())) ∧ (Q .ret (⟨[(6, .c y_2)], [], []⟩ : LSt U))) ∧ ((((OpOf.kind o) : Int) == 1) = false → ((((OpOf.kind o) : Int) == 2) = true → ((bif (((OpOf.n o) : Int) == 0) then (decide ((0 : Int) < ((OpOf.l o).length : Int))) else false) = true → pre87 (y_1, 1, ())) ∧ ((bif (((OpOf.n o) : Int) == 0) then (decide ((0 : Int) < ((OpOf.l o).length : Int))) else false) = true → mu87 (y_1, 1, ()) < N) ∧ ((bif (bif (bif (((OpOf.n o) : Int) == 0) then (decide ((0 : Int) < ((OpOf.l o).length : Int))) else false) then (rightE y_1 1) else false) then (((Edit.kind (OpOf.e o)) : Int) == 0) else false) = true → pre135 ((OpOf.l o), (list, ()), ())) ∧ (Q .ret (⟨[(6, .c y_2)], [], []⟩ : LSt U))) ∧ ((((OpOf.kind o) : Int) == 2) = false → ((((OpOf.kind o) : Int) == 3) = true → ((bif (((OpOf.n o) : Int) == 0) then ((((OpOf.l o).length : Int) : Int) == 0) else false) = true → pre138 (list, y_1, ())) ∧ ((bif (bif (((OpOf.n o) : Int) == 0) then ((((OpOf.l o).length : Int) : Int) == 0) else false) then (withinB list y_1) else false) = true → pre87 (y_1, d, ())) ∧ ((bif (bif (((OpOf.n o) : Int) == 0) then ((((OpOf.l o).length : Int) : Int) == 0) else false) then (withinB list y_1) else false) = true → mu87 (y_1, d, ()) < N) ∧ (Q .ret (⟨[(6, .c (.bool (bif (bif (bif (((OpOf.n o) : Int) == 0) then ((((OpOf.l o).length : Int) : Int) == 0) else false) then (withinB list y_1) else false) then (rightE y_1 d) else false)))], [], []⟩ : LSt U))) ∧ ((((OpOf.kind o) : Int) == 3) = false → Q .ret (⟨[(6, .c (.bool false))], [], []⟩ : LSt U)))))) :
    W132 N list o d Q := by
  have e_ : (awp cfg (know (know132 N)) (drawOk cfg (know (know132 N))) Try.f132.ntmps lv132 (cd Try.f132 []) (⟨[(0, .c (.int .i64 list)), (1, .agg [.int .i64 (OpOf.kind o), .int .i64 (OpOf.n o), .slice (U := U) .tree (OpOf.l o) .unk, .int .i64 (Edit.kind (OpOf.e o)), .int .i64 (Tree.kind (Edit.old (OpOf.e o))), .slice (U := U) .u64 (Tree.words (Edit.old (OpOf.e o))) .unk, .slice (U := U) .tree (Tree.kids (Edit.old (OpOf.e o))) .unk, .int .i64 (Tree.kind (Edit.new (OpOf.e o))), .slice (U := U) .u64 (Tree.words (Edit.new (OpOf.e o))) .unk, .slice (U := U) .tree (Tree.kids (Edit.new (OpOf.e o))) .unk, .slice (U := U) .wedit (Edit.words (OpOf.e o)) .unk, .slice (U := U) .kid (Edit.kids (OpOf.e o)) .unk, .int .i64 (Edit.list (OpOf.e o)), .slice (U := U) .op (Edit.ops (OpOf.e o)) .unk]), (2, .c (.int .i64 d))], [], []⟩ : LSt U) Q) = (let y_1 := (reEdit (OpOf.e o)); let y_2 := (.bool (bif (bif (bif (bif (((OpOf.n o) : Int) == 0) then (decide ((0 : Int) < ((OpOf.l o).length : Int))) else false) then (rightE y_1 1) else false) then (((Edit.kind (OpOf.e o)) : Int) == 0) else false) then (!(!(treesOk list (OpOf.l o)))) else false)); (((((((OpOf.kind o) : Int) == 0) = true → ((decide ((1 : Int) ≤ (OpOf.n o))) = true → (decide ((1 : Int) ≤ (OpOf.n o))) = true) ∧ ((decide ((1 : Int) ≤ (OpOf.n o))) = true → (decide ((1 : Int) ≤ (OpOf.n o))) = true) ∧ (((decide ((1 : Int) ≤ (OpOf.n o))) = true → (decide ((1 : Int) ≤ (OpOf.n o))) = true)) ∧ ((bif (decide ((1 : Int) ≤ (OpOf.n o))) then (decide (((OpOf.n o) : Int) ≤ 1048576)) else false) = true → (bif (decide ((1 : Int) ≤ (OpOf.n o))) then (decide (((OpOf.n o) : Int) ≤ 1048576)) else false) = true) ∧ ((bif (decide ((1 : Int) ≤ (OpOf.n o))) then (decide (((OpOf.n o) : Int) ≤ 1048576)) else false) = true → (bif (decide ((1 : Int) ≤ (OpOf.n o))) then (decide (((OpOf.n o) : Int) ≤ 1048576)) else false) = true) ∧ ((bif (decide ((1 : Int) ≤ (OpOf.n o))) then (decide (((OpOf.n o) : Int) ≤ 1048576)) else false) = true → (bif (decide ((1 : Int) ≤ (OpOf.n o))) then (decide (((OpOf.n o) : Int) ≤ 1048576)) else false) = true) ∧ (((bif (decide ((1 : Int) ≤ (OpOf.n o))) then (decide (((OpOf.n o) : Int) ≤ 1048576)) else false) = true → (bif (decide ((1 : Int) ≤ (OpOf.n o))) then (decide (((OpOf.n o) : Int) ≤ 1048576)) else false) = true)) ∧ ((bif (bif (decide ((1 : Int) ≤ (OpOf.n o))) then (decide (((OpOf.n o) : Int) ≤ 1048576)) else false) then ((((OpOf.l o).length : Int) : Int) == 0) else false) = true → (bif (bif (decide ((1 : Int) ≤ (OpOf.n o))) then (decide (((OpOf.n o) : Int) ≤ 1048576)) else false) then ((((OpOf.l o).length : Int) : Int) == 0) else false) = true) ∧ ((bif (bif (decide ((1 : Int) ≤ (OpOf.n o))) then (decide (((OpOf.n o) : Int) ≤ 1048576)) else false) then ((((OpOf.l o).length : Int) : Int) == 0) else false) = true → (bif (bif (decide ((1 : Int) ≤ (OpOf.n o))) then (decide (((OpOf.n o) : Int) ≤ 1048576)) else false) then ((((OpOf.l o).length : Int) : Int) == 0) else false) = true) ∧ ((bif (bif (decide ((1 : Int) ≤ (OpOf.n o))) then (decide (((OpOf.n o) : Int) ≤ 1048576)) else false) then ((((OpOf.l o).length : Int) : Int) == 0) else false) = true → pre87 (y_1, 1, ())) ∧ ((bif (bif (decide ((1 : Int) ≤ (OpOf.n o))) then (decide (((OpOf.n o) : Int) ≤ 1048576)) else false) then ((((OpOf.l o).length : Int) : Int) == 0) else false) = true → mu87 (y_1, 1, ()) < N) ∧ (((bif (bif (decide ((1 : Int) ≤ (OpOf.n o))) then (decide (((OpOf.n o) : Int) ≤ 1048576)) else false) then ((((OpOf.l o).length : Int) : Int) == 0) else false) = true → (bif (bif (decide ((1 : Int) ≤ (OpOf.n o))) then (decide (((OpOf.n o) : Int) ≤ 1048576)) else false) then ((((OpOf.l o).length : Int) : Int) == 0) else false) = true)) ∧ ((bif (bif (bif (decide ((1 : Int) ≤ (OpOf.n o))) then (decide (((OpOf.n o) : Int) ≤ 1048576)) else false) then ((((OpOf.l o).length : Int) : Int) == 0) else false) then (rightE y_1 1) else false) = true → (bif (bif (bif (decide ((1 : Int) ≤ (OpOf.n o))) then (decide (((OpOf.n o) : Int) ≤ 1048576)) else false) then ((((OpOf.l o).length : Int) : Int) == 0) else false) then (rightE y_1 1) else false) = true) ∧ ((bif (bif (bif (decide ((1 : Int) ≤ (OpOf.n o))) then (decide (((OpOf.n o) : Int) ≤ 1048576)) else false) then ((((OpOf.l o).length : Int) : Int) == 0) else false) then (rightE y_1 1) else false) = true → (bif (bif (bif (decide ((1 : Int) ≤ (OpOf.n o))) then (decide (((OpOf.n o) : Int) ≤ 1048576)) else false) then ((((OpOf.l o).length : Int) : Int) == 0) else false) then (rightE y_1 1) else false) = true) ∧ ((bif (bif (bif (decide ((1 : Int) ≤ (OpOf.n o))) then (decide (((OpOf.n o) : Int) ≤ 1048576)) else false) then ((((OpOf.l o).length : Int) : Int) == 0) else false) then (rightE y_1 1) else false) = true → (bif (bif (bif (decide ((1 : Int) ≤ (OpOf.n o))) then (decide (((OpOf.n o) : Int) ≤ 1048576)) else false) then ((((OpOf.l o).length : Int) : Int) == 0) else false) then (rightE y_1 1) else false) = true) ∧ (((bif (bif (bif (decide ((1 : Int) ≤ (OpOf.n o))) then (decide (((OpOf.n o) : Int) ≤ 1048576)) else false) then ((((OpOf.l o).length : Int) : Int) == 0) else false) then (rightE y_1 1) else false) = true → (bif (bif (bif (decide ((1 : Int) ≤ (OpOf.n o))) then (decide (((OpOf.n o) : Int) ≤ 1048576)) else false) then ((((OpOf.l o).length : Int) : Int) == 0) else false) then (rightE y_1 1) else false) = true)) ∧ (Q .ret (⟨[(6, .c (.bool (bif (bif (bif (bif (decide ((1 : Int) ≤ (OpOf.n o))) then (decide (((OpOf.n o) : Int) ≤ 1048576)) else false) then ((((OpOf.l o).length : Int) : Int) == 0) else false) then (rightE y_1 1) else false) then (((Edit.kind (OpOf.e o)) : Int) == 0) else false)))], [], []⟩ : LSt U))) ∧ ((((OpOf.kind o) : Int) == 0) = false → (((((OpOf.kind o) : Int) == 1) = true → ((((OpOf.n o) : Int) == 0) = true → (((OpOf.n o) : Int) == 0) = true) ∧ ((((OpOf.n o) : Int) == 0) = true → (((OpOf.n o) : Int) == 0) = true) ∧ ((((OpOf.n o) : Int) == 0) = true → (((OpOf.n o) : Int) == 0) = true) ∧ (((((OpOf.n o) : Int) == 0) = true → (((OpOf.n o) : Int) == 0) = true)) ∧ ((bif (((OpOf.n o) : Int) == 0) then (decide ((0 : Int) < ((OpOf.l o).length : Int))) else false) = true → (bif (((OpOf.n o) : Int) == 0) then (decide ((0 : Int) < ((OpOf.l o).length : Int))) else false) = true) ∧ ((bif (((OpOf.n o) : Int) == 0) then (decide ((0 : Int) < ((OpOf.l o).length : Int))) else false) = true → (bif (((OpOf.n o) : Int) == 0) then (decide ((0 : Int) < ((OpOf.l o).length : Int))) else false) = true) ∧ ((bif (((OpOf.n o) : Int) == 0) then (decide ((0 : Int) < ((OpOf.l o).length : Int))) else false) = true → pre87 (y_1, 1, ())) ∧ ((bif (((OpOf.n o) : Int) == 0) then (decide ((0 : Int) < ((OpOf.l o).length : Int))) else false) = true → mu87 (y_1, 1, ()) < N) ∧ (((bif (((OpOf.n o) : Int) == 0) then (decide ((0 : Int) < ((OpOf.l o).length : Int))) else false) = true → (bif (((OpOf.n o) : Int) == 0) then (decide ((0 : Int) < ((OpOf.l o).length : Int))) else false) = true)) ∧ ((bif (bif (((OpOf.n o) : Int) == 0) then (decide ((0 : Int) < ((OpOf.l o).length : Int))) else false) then (rightE y_1 1) else false) = true → (bif (bif (((OpOf.n o) : Int) == 0) then (decide ((0 : Int) < ((OpOf.l o).length : Int))) else false) then (rightE y_1 1) else false) = true) ∧ ((bif (bif (((OpOf.n o) : Int) == 0) then (decide ((0 : Int) < ((OpOf.l o).length : Int))) else false) then (rightE y_1 1) else false) = true → (bif (bif (((OpOf.n o) : Int) == 0) then (decide ((0 : Int) < ((OpOf.l o).length : Int))) else false) then (rightE y_1 1) else false) = true) ∧ ((bif (bif (((OpOf.n o) : Int) == 0) then (decide ((0 : Int) < ((OpOf.l o).length : Int))) else false) then (rightE y_1 1) else false) = true → (bif (bif (((OpOf.n o) : Int) == 0) then (decide ((0 : Int) < ((OpOf.l o).length : Int))) else false) then (rightE y_1 1) else false) = true) ∧ (((bif (bif (((OpOf.n o) : Int) == 0) then (decide ((0 : Int) < ((OpOf.l o).length : Int))) else false) then (rightE y_1 1) else false) = true → (bif (bif (((OpOf.n o) : Int) == 0) then (decide ((0 : Int) < ((OpOf.l o).length : Int))) else false) then (rightE y_1 1) else false) = true)) ∧ ((bif (bif (bif (((OpOf.n o) : Int) == 0) then (decide ((0 : Int) < ((OpOf.l o).length : Int))) else false) then (rightE y_1 1) else false) then (((Edit.kind (OpOf.e o)) : Int) == 0) else false) = true → (bif (bif (bif (((OpOf.n o) : Int) == 0) then (decide ((0 : Int) < ((OpOf.l o).length : Int))) else false) then (rightE y_1 1) else false) then (((Edit.kind (OpOf.e o)) : Int) == 0) else false) = true) ∧ ((bif (bif (bif (((OpOf.n o) : Int) == 0) then (decide ((0 : Int) < ((OpOf.l o).length : Int))) else false) then (rightE y_1 1) else false) then (((Edit.kind (OpOf.e o)) : Int) == 0) else false) = true → (bif (bif (bif (((OpOf.n o) : Int) == 0) then (decide ((0 : Int) < ((OpOf.l o).length : Int))) else false) then (rightE y_1 1) else false) then (((Edit.kind (OpOf.e o)) : Int) == 0) else false) = true) ∧ ((bif (bif (bif (((OpOf.n o) : Int) == 0) then (decide ((0 : Int) < ((OpOf.l o).length : Int))) else false) then (rightE y_1 1) else false) then (((Edit.kind (OpOf.e o)) : Int) == 0) else false) = true → (bif (bif (bif (((OpOf.n o) : Int) == 0) then (decide ((0 : Int) < ((OpOf.l o).length : Int))) else false) then (rightE y_1 1) else false) then (((Edit.kind (OpOf.e o)) : Int) == 0) else false) = true) ∧ ((bif (bif (bif (((OpOf.n o) : Int) == 0) then (decide ((0 : Int) < ((OpOf.l o).length : Int))) else false) then (rightE y_1 1) else false) then (((Edit.kind (OpOf.e o)) : Int) == 0) else false) = true → pre135 ((OpOf.l o), (list, ()), ())) ∧ ((bif (bif (bif (((OpOf.n o) : Int) == 0) then (decide ((0 : Int) < ((OpOf.l o).length : Int))) else false) then (rightE y_1 1) else false) then (((Edit.kind (OpOf.e o)) : Int) == 0) else false) = true → (bif (bif (bif (((OpOf.n o) : Int) == 0) then (decide ((0 : Int) < ((OpOf.l o).length : Int))) else false) then (rightE y_1 1) else false) then (((Edit.kind (OpOf.e o)) : Int) == 0) else false) = true) ∧ (((bif (bif (bif (((OpOf.n o) : Int) == 0) then (decide ((0 : Int) < ((OpOf.l o).length : Int))) else false) then (rightE y_1 1) else false) then (((Edit.kind (OpOf.e o)) : Int) == 0) else false) = true → (bif (bif (bif (((OpOf.n o) : Int) == 0) then (decide ((0 : Int) < ((OpOf.l o).length : Int))) else false) then (rightE y_1 1) else false) then (((Edit.kind (OpOf.e o)) : Int) == 0) else false) = true)) ∧ (Q .ret (⟨[(6, .c y_2)], [], []⟩ : LSt U))) ∧ ((((OpOf.kind o) : Int) == 1) = false → (((((OpOf.kind o) : Int) == 2) = true → ((((OpOf.n o) : Int) == 0) = true → (((OpOf.n o) : Int) == 0) = true) ∧ ((((OpOf.n o) : Int) == 0) = true → (((OpOf.n o) : Int) == 0) = true) ∧ ((((OpOf.n o) : Int) == 0) = true → (((OpOf.n o) : Int) == 0) = true) ∧ (((((OpOf.n o) : Int) == 0) = true → (((OpOf.n o) : Int) == 0) = true)) ∧ ((bif (((OpOf.n o) : Int) == 0) then (decide ((0 : Int) < ((OpOf.l o).length : Int))) else false) = true → (bif (((OpOf.n o) : Int) == 0) then (decide ((0 : Int) < ((OpOf.l o).length : Int))) else false) = true) ∧ ((bif (((OpOf.n o) : Int) == 0) then (decide ((0 : Int) < ((OpOf.l o).length : Int))) else false) = true → (bif (((OpOf.n o) : Int) == 0) then (decide ((0 : Int) < ((OpOf.l o).length : Int))) else false) = true) ∧ ((bif (((OpOf.n o) : Int) == 0) then (decide ((0 : Int) < ((OpOf.l o).length : Int))) else false) = true → pre87 (y_1, 1, ())) ∧ ((bif (((OpOf.n o) : Int) == 0) then (decide ((0 : Int) < ((OpOf.l o).length : Int))) else false) = true → mu87 (y_1, 1, ()) < N) ∧ (((bif (((OpOf.n o) : Int) == 0) then (decide ((0 : Int) < ((OpOf.l o).length : Int))) else false) = true → (bif (((OpOf.n o) : Int) == 0) then (decide ((0 : Int) < ((OpOf.l o).length : Int))) else false) = true)) ∧ ((bif (bif (((OpOf.n o) : Int) == 0) then (decide ((0 : Int) < ((OpOf.l o).length : Int))) else false) then (rightE y_1 1) else false) = true → (bif (bif (((OpOf.n o) : Int) == 0) then (decide ((0 : Int) < ((OpOf.l o).length : Int))) else false) then (rightE y_1 1) else false) = true) ∧ ((bif (bif (((OpOf.n o) : Int) == 0) then (decide ((0 : Int) < ((OpOf.l o).length : Int))) else false) then (rightE y_1 1) else false) = true → (bif (bif (((OpOf.n o) : Int) == 0) then (decide ((0 : Int) < ((OpOf.l o).length : Int))) else false) then (rightE y_1 1) else false) = true) ∧ ((bif (bif (((OpOf.n o) : Int) == 0) then (decide ((0 : Int) < ((OpOf.l o).length : Int))) else false) then (rightE y_1 1) else false) = true → (bif (bif (((OpOf.n o) : Int) == 0) then (decide ((0 : Int) < ((OpOf.l o).length : Int))) else false) then (rightE y_1 1) else false) = true) ∧ (((bif (bif (((OpOf.n o) : Int) == 0) then (decide ((0 : Int) < ((OpOf.l o).length : Int))) else false) then (rightE y_1 1) else false) = true → (bif (bif (((OpOf.n o) : Int) == 0) then (decide ((0 : Int) < ((OpOf.l o).length : Int))) else false) then (rightE y_1 1) else false) = true)) ∧ ((bif (bif (bif (((OpOf.n o) : Int) == 0) then (decide ((0 : Int) < ((OpOf.l o).length : Int))) else false) then (rightE y_1 1) else false) then (((Edit.kind (OpOf.e o)) : Int) == 0) else false) = true → (bif (bif (bif (((OpOf.n o) : Int) == 0) then (decide ((0 : Int) < ((OpOf.l o).length : Int))) else false) then (rightE y_1 1) else false) then (((Edit.kind (OpOf.e o)) : Int) == 0) else false) = true) ∧ ((bif (bif (bif (((OpOf.n o) : Int) == 0) then (decide ((0 : Int) < ((OpOf.l o).length : Int))) else false) then (rightE y_1 1) else false) then (((Edit.kind (OpOf.e o)) : Int) == 0) else false) = true → (bif (bif (bif (((OpOf.n o) : Int) == 0) then (decide ((0 : Int) < ((OpOf.l o).length : Int))) else false) then (rightE y_1 1) else false) then (((Edit.kind (OpOf.e o)) : Int) == 0) else false) = true) ∧ ((bif (bif (bif (((OpOf.n o) : Int) == 0) then (decide ((0 : Int) < ((OpOf.l o).length : Int))) else false) then (rightE y_1 1) else false) then (((Edit.kind (OpOf.e o)) : Int) == 0) else false) = true → (bif (bif (bif (((OpOf.n o) : Int) == 0) then (decide ((0 : Int) < ((OpOf.l o).length : Int))) else false) then (rightE y_1 1) else false) then (((Edit.kind (OpOf.e o)) : Int) == 0) else false) = true) ∧ ((bif (bif (bif (((OpOf.n o) : Int) == 0) then (decide ((0 : Int) < ((OpOf.l o).length : Int))) else false) then (rightE y_1 1) else false) then (((Edit.kind (OpOf.e o)) : Int) == 0) else false) = true → pre135 ((OpOf.l o), (list, ()), ())) ∧ ((bif (bif (bif (((OpOf.n o) : Int) == 0) then (decide ((0 : Int) < ((OpOf.l o).length : Int))) else false) then (rightE y_1 1) else false) then (((Edit.kind (OpOf.e o)) : Int) == 0) else false) = true → (bif (bif (bif (((OpOf.n o) : Int) == 0) then (decide ((0 : Int) < ((OpOf.l o).length : Int))) else false) then (rightE y_1 1) else false) then (((Edit.kind (OpOf.e o)) : Int) == 0) else false) = true) ∧ (((bif (bif (bif (((OpOf.n o) : Int) == 0) then (decide ((0 : Int) < ((OpOf.l o).length : Int))) else false) then (rightE y_1 1) else false) then (((Edit.kind (OpOf.e o)) : Int) == 0) else false) = true → (bif (bif (bif (((OpOf.n o) : Int) == 0) then (decide ((0 : Int) < ((OpOf.l o).length : Int))) else false) then (rightE y_1 1) else false) then (((Edit.kind (OpOf.e o)) : Int) == 0) else false) = true)) ∧ (Q .ret (⟨[(6, .c y_2)], [], []⟩ : LSt U))) ∧ ((((OpOf.kind o) : Int) == 2) = false → (((((OpOf.kind o) : Int) == 3) = true → ((((OpOf.n o) : Int) == 0) = true → (((OpOf.n o) : Int) == 0) = true) ∧ ((((OpOf.n o) : Int) == 0) = true → (((OpOf.n o) : Int) == 0) = true) ∧ ((((OpOf.n o) : Int) == 0) = true → (((OpOf.n o) : Int) == 0) = true) ∧ (((((OpOf.n o) : Int) == 0) = true → (((OpOf.n o) : Int) == 0) = true)) ∧ ((bif (((OpOf.n o) : Int) == 0) then ((((OpOf.l o).length : Int) : Int) == 0) else false) = true → (bif (((OpOf.n o) : Int) == 0) then ((((OpOf.l o).length : Int) : Int) == 0) else false) = true) ∧ ((bif (((OpOf.n o) : Int) == 0) then ((((OpOf.l o).length : Int) : Int) == 0) else false) = true → (bif (((OpOf.n o) : Int) == 0) then ((((OpOf.l o).length : Int) : Int) == 0) else false) = true) ∧ ((bif (((OpOf.n o) : Int) == 0) then ((((OpOf.l o).length : Int) : Int) == 0) else false) = true → (bif (((OpOf.n o) : Int) == 0) then ((((OpOf.l o).length : Int) : Int) == 0) else false) = true) ∧ ((bif (((OpOf.n o) : Int) == 0) then ((((OpOf.l o).length : Int) : Int) == 0) else false) = true → pre138 (list, y_1, ())) ∧ (((bif (((OpOf.n o) : Int) == 0) then ((((OpOf.l o).length : Int) : Int) == 0) else false) = true → (bif (((OpOf.n o) : Int) == 0) then ((((OpOf.l o).length : Int) : Int) == 0) else false) = true)) ∧ ((bif (bif (((OpOf.n o) : Int) == 0) then ((((OpOf.l o).length : Int) : Int) == 0) else false) then (withinB list y_1) else false) = true → (bif (bif (((OpOf.n o) : Int) == 0) then ((((OpOf.l o).length : Int) : Int) == 0) else false) then (withinB list y_1) else false) = true) ∧ ((bif (bif (((OpOf.n o) : Int) == 0) then ((((OpOf.l o).length : Int) : Int) == 0) else false) then (withinB list y_1) else false) = true → (bif (bif (((OpOf.n o) : Int) == 0) then ((((OpOf.l o).length : Int) : Int) == 0) else false) then (withinB list y_1) else false) = true) ∧ ((bif (bif (((OpOf.n o) : Int) == 0) then ((((OpOf.l o).length : Int) : Int) == 0) else false) then (withinB list y_1) else false) = true → (bif (bif (((OpOf.n o) : Int) == 0) then ((((OpOf.l o).length : Int) : Int) == 0) else false) then (withinB list y_1) else false) = true) ∧ ((bif (bif (((OpOf.n o) : Int) == 0) then ((((OpOf.l o).length : Int) : Int) == 0) else false) then (withinB list y_1) else false) = true → pre87 (y_1, d, ())) ∧ ((bif (bif (((OpOf.n o) : Int) == 0) then ((((OpOf.l o).length : Int) : Int) == 0) else false) then (withinB list y_1) else false) = true → mu87 (y_1, d, ()) < N) ∧ (((bif (bif (((OpOf.n o) : Int) == 0) then ((((OpOf.l o).length : Int) : Int) == 0) else false) then (withinB list y_1) else false) = true → (bif (bif (((OpOf.n o) : Int) == 0) then ((((OpOf.l o).length : Int) : Int) == 0) else false) then (withinB list y_1) else false) = true)) ∧ (Q .ret (⟨[(6, .c (.bool (bif (bif (bif (((OpOf.n o) : Int) == 0) then ((((OpOf.l o).length : Int) : Int) == 0) else false) then (withinB list y_1) else false) then (rightE y_1 d) else false)))], [], []⟩ : LSt U))) ∧ ((((OpOf.kind o) : Int) == 3) = false → (Q .ret (⟨[(6, .c (.bool false))], [], []⟩ : LSt U))))))))))))) := by kernel_rfl
  exact e_.mpr (by intro y_1 y_2; exact ⟨fun c_10 => ⟨fun x => x, fun x => x, (by generalize (decide ((1 : Int) ≤ (OpOf.n o))) = b0; revert b0; decide), fun x => x, fun x => x, fun x => x, (by generalize (decide (((OpOf.n o) : Int) ≤ 1048576)) = b0; generalize (decide ((1 : Int) ≤ (OpOf.n o))) = b1; revert b0 b1; decide), fun x => x, fun x => x, ((h y_1 (reEdit_eq _) y_2 rfl).1 c_10).1, ((h y_1 (reEdit_eq _) y_2 rfl).1 c_10).2.1, (by generalize ((((OpOf.l o).length : Int) : Int) == 0) = b0; generalize (decide (((OpOf.n o) : Int) ≤ 1048576)) = b1; generalize (decide ((1 : Int) ≤ (OpOf.n o))) = b2; revert b0 b1 b2; decide), fun x => x, fun x => x, fun x => x, (by generalize (rightE y_1 1) = b0; generalize ((((OpOf.l o).length : Int) : Int) == 0) = b1; generalize (decide (((OpOf.n o) : Int) ≤ 1048576)) = b2; generalize (decide ((1 : Int) ≤ (OpOf.n o))) = b3; revert b0 b1 b2 b3; decide), ((h y_1 (reEdit_eq _) y_2 rfl).1 c_10).2.2⟩, fun c_10 => ⟨fun c_11 => ⟨fun x => x, fun x => x, fun x => x, (by generalize (((OpOf.n o) : Int) == 0) = b0; revert b0; decide), fun x => x, fun x => x, (((h y_1 (reEdit_eq _) y_2 rfl).2 c_10).1 c_11).1, (((h y_1 (reEdit_eq _) y_2 rfl).2 c_10).1 c_11).2.1, (by generalize (decide ((0 : Int) < ((OpOf.l o).length : Int))) = b0; generalize (((OpOf.n o) : Int) == 0) = b1; revert b0 b1; decide), fun x => x, fun x => x, fun x => x, (by generalize (rightE y_1 1) = b0; generalize (decide ((0 : Int) < ((OpOf.l o).length : Int))) = b1; generalize (((OpOf.n o) : Int) == 0) = b2; revert b0 b1 b2; decide), fun x => x, fun x => x, fun x => x, (((h y_1 (reEdit_eq _) y_2 rfl).2 c_10).1 c_11).2.2.1, fun x => x, (by generalize (rightE y_1 1) = b0; generalize (decide ((0 : Int) < ((OpOf.l o).length : Int))) = b1; generalize (((Edit.kind (OpOf.e o)) : Int) == 0) = b2; generalize (((OpOf.n o) : Int) == 0) = b3; revert b0 b1 b2 b3; decide), (((h y_1 (reEdit_eq _) y_2 rfl).2 c_10).1 c_11).2.2.2⟩, fun c_11 => ⟨fun c_12 => ⟨fun x => x, fun x => x, fun x => x, (by generalize (((OpOf.n o) : Int) == 0) = b0; revert b0; decide), fun x => x, fun x => x, ((((h y_1 (reEdit_eq _) y_2 rfl).2 c_10).2 c_11).1 c_12).1, ((((h y_1 (reEdit_eq _) y_2 rfl).2 c_10).2 c_11).1 c_12).2.1, (by generalize (decide ((0 : Int) < ((OpOf.l o).length : Int))) = b0; generalize (((OpOf.n o) : Int) == 0) = b1; revert b0 b1; decide), fun x => x, fun x => x, fun x => x, (by generalize (rightE y_1 1) = b0; generalize (decide ((0 : Int) < ((OpOf.l o).length : Int))) = b1; generalize (((OpOf.n o) : Int) == 0) = b2; revert b0 b1 b2; decide), fun x => x, fun x => x, fun x => x, ((((h y_1 (reEdit_eq _) y_2 rfl).2 c_10).2 c_11).1 c_12).2.2.1, fun x => x, (by generalize (rightE y_1 1) = b0; generalize (decide ((0 : Int) < ((OpOf.l o).length : Int))) = b1; generalize (((Edit.kind (OpOf.e o)) : Int) == 0) = b2; generalize (((OpOf.n o) : Int) == 0) = b3; revert b0 b1 b2 b3; decide), ((((h y_1 (reEdit_eq _) y_2 rfl).2 c_10).2 c_11).1 c_12).2.2.2⟩, fun c_12 => ⟨fun c_13 => ⟨fun x => x, fun x => x, fun x => x, (by generalize (((OpOf.n o) : Int) == 0) = b0; revert b0; decide), fun x => x, fun x => x, fun x => x, (((((h y_1 (reEdit_eq _) y_2 rfl).2 c_10).2 c_11).2 c_12).1 c_13).1, (by generalize ((((OpOf.l o).length : Int) : Int) == 0) = b0; generalize (((OpOf.n o) : Int) == 0) = b1; revert b0 b1; decide), fun x => x, fun x => x, fun x => x, (((((h y_1 (reEdit_eq _) y_2 rfl).2 c_10).2 c_11).2 c_12).1 c_13).2.1, (((((h y_1 (reEdit_eq _) y_2 rfl).2 c_10).2 c_11).2 c_12).1 c_13).2.2.1, (by generalize (withinB list y_1) = b0; generalize ((((OpOf.l o).length : Int) : Int) == 0) = b1; generalize (((OpOf.n o) : Int) == 0) = b2; revert b0 b1 b2; decide), (((((h y_1 (reEdit_eq _) y_2 rfl).2 c_10).2 c_11).2 c_12).1 c_13).2.2.2⟩, fun c_13 => (((((h y_1 (reEdit_eq _) y_2 rfl).2 c_10).2 c_11).2 c_12).2 c_13)⟩⟩⟩⟩)
def Body132 (N : Nat) (list : Int) (o : Op) (d : Int)  : Prop := awp cfg (know (know132 N)) (drawOk cfg (know (know132 N))) Try.f132.ntmps lv132 (cd Try.f132 []) (entry (args132.can (list, o, d, ())) []) (EndsQ cfg Try.f132.ntmps Try.f132.results.toList (res132 (list, o, d, ())) [])
abbrev HB132 : Prop := ∀ (N : Nat) (list : Int) (o : Op) (d : Int) (_ : Unit), pre132 (list, o, d, ()) → mu132 (list, o, d, ()) < N + 1 → Body132 N list o d

/-! cento/edit.Right -/
noncomputable def know58 : List (FuncId × Fs U) := [(87, spec87)]
def lv58 : Lives U := fun i => match i with
  | 0 => ([(1, [])], [((.loc 1), [])])
  | 1 => ([(2, [])], [])
  | _ => ([], [])
abbrev W58 (e : Edit) (Q : AExit → LSt U → Prop) : Prop := awp cfg (know know58) (drawOk cfg (know know58)) Try.f58.ntmps lv58 (cd Try.f58 []) (⟨[(0, .agg [.int .i64 (Edit.kind e), .int .i64 (Tree.kind (Edit.old e)), .slice (U := U) .u64 (Tree.words (Edit.old e)) .unk, .slice (U := U) .tree (Tree.kids (Edit.old e)) .unk, .int .i64 (Tree.kind (Edit.new e)), .slice (U := U) .u64 (Tree.words (Edit.new e)) .unk, .slice (U := U) .tree (Tree.kids (Edit.new e)) .unk, .slice (U := U) .wedit (Edit.words e) .unk, .slice (U := U) .kid (Edit.kids e) .unk, .int .i64 (Edit.list e), .slice (U := U) .op (Edit.ops e) .unk])], [], []⟩ : LSt U) Q
/-- the body -/
theorem vc58 (e : Edit) (Q : AExit → LSt U → Prop) (h : (pre87 ((Edit.mk (Edit.kind e) (Tree.mk (Tree.kind (Edit.old e)) (Tree.words (Edit.old e)) (Tree.kids (Edit.old e))) (Tree.mk (Tree.kind (Edit.new e)) (Tree.words (Edit.new e)) (Tree.kids (Edit.new e))) (Edit.words e) (Edit.kids e) (Edit.list e) (Edit.ops e)), 64, ())) ∧ (Q .ret (⟨[(2, .c (.bool (rightE (Edit.mk (Edit.kind e) (Tree.mk (Tree.kind (Edit.old e)) (Tree.words (Edit.old e)) (Tree.kids (Edit.old e))) (Tree.mk (Tree.kind (Edit.new e)) (Tree.words (Edit.new e)) (Tree.kids (Edit.new e))) (Edit.words e) (Edit.kids e) (Edit.list e) (Edit.ops e)) 64)))], [], []⟩ : LSt U))) :
    W58 e Q := by
  have e_ : (awp cfg (know know58) (drawOk cfg (know know58)) Try.f58.ntmps lv58 (cd Try.f58 []) (⟨[(0, .agg [.int .i64 (Edit.kind e), .int .i64 (Tree.kind (Edit.old e)), .slice (U := U) .u64 (Tree.words (Edit.old e)) .unk, .slice (U := U) .tree (Tree.kids (Edit.old e)) .unk, .int .i64 (Tree.kind (Edit.new e)), .slice (U := U) .u64 (Tree.words (Edit.new e)) .unk, .slice (U := U) .tree (Tree.kids (Edit.new e)) .unk, .slice (U := U) .wedit (Edit.words e) .unk, .slice (U := U) .kid (Edit.kids e) .unk, .int .i64 (Edit.list e), .slice (U := U) .op (Edit.ops e) .unk])], [], []⟩ : LSt U) Q) = (((pre87 ((Edit.mk (Edit.kind e) (Tree.mk (Tree.kind (Edit.old e)) (Tree.words (Edit.old e)) (Tree.kids (Edit.old e))) (Tree.mk (Tree.kind (Edit.new e)) (Tree.words (Edit.new e)) (Tree.kids (Edit.new e))) (Edit.words e) (Edit.kids e) (Edit.list e) (Edit.ops e)), 64, ())) ∧ (Q .ret (⟨[(2, .c (.bool (rightE (Edit.mk (Edit.kind e) (Tree.mk (Tree.kind (Edit.old e)) (Tree.words (Edit.old e)) (Tree.kids (Edit.old e))) (Tree.mk (Tree.kind (Edit.new e)) (Tree.words (Edit.new e)) (Tree.kids (Edit.new e))) (Edit.words e) (Edit.kids e) (Edit.list e) (Edit.ops e)) 64)))], [], []⟩ : LSt U)))) := by kernel_rfl
  exact e_.mpr ⟨h.1, h.2⟩
def Body58 (e : Edit)  : Prop := awp cfg (know (know58)) (drawOk cfg (know (know58))) Try.f58.ntmps lv58 (cd Try.f58 []) (entry (args58.can (e, ())) []) (EndsQ cfg Try.f58.ntmps Try.f58.results.toList (res58 (e, ())) [])
theorem make58 (c87 : Contract Try.prog cfg 87 spec87) (hb : ∀ (e : Edit) (_ : Unit), pre58 (e, ()) → Body58 e) : Contract Try.prog cfg 58 spec58 :=
  contract_flat (l := [(87, spec87)]) cfgOk rfl (⟨c87, trivial⟩) lv58 Try.func58 rfl rfl 1 (fun _ => rfl) (by decide) (fun ⟨e, _⟩ => hb e ())

theorem make87_ (c118 : Contract Try.prog cfg 118 spec118) (c119 : Contract Try.prog cfg 119 spec119) (c120 : Contract Try.prog cfg 120 spec120) (c48 : Contract Try.prog cfg 48 spec48) (c135 : Contract Try.prog cfg 135 spec135) (c138 : Contract Try.prog cfg 138 spec138) (c56 : Contract Try.prog cfg 56 spec56) (b87 : HB87) (b121 : HB121) (b122 : HB122) (b132 : HB132) :
    Contract Try.prog cfg 87 spec87 ∧ Contract Try.prog cfg 121 spec121 ∧ Contract Try.prog cfg 122 spec122 ∧ Contract Try.prog cfg 132 spec132 := by
  have h87 : ∃ fn, Try.prog.funcs[(87 : FuncId)]? = some fn ∧ fn.body.isSome = true ∧ (fn.name == "runtime.NumGoroutine") = false := ⟨Try.f87, Try.func87, rfl, rfl⟩
  have h121 : ∃ fn, Try.prog.funcs[(121 : FuncId)]? = some fn ∧ fn.body.isSome = true ∧ (fn.name == "runtime.NumGoroutine") = false := ⟨Try.f121, Try.func121, rfl, rfl⟩
  have h122 : ∃ fn, Try.prog.funcs[(122 : FuncId)]? = some fn ∧ fn.body.isSome = true ∧ (fn.name == "runtime.NumGoroutine") = false := ⟨Try.f122, Try.func122, rfl, rfl⟩
  have h132 : ∃ fn, Try.prog.funcs[(132 : FuncId)]? = some fn ∧ fn.body.isSome = true ∧ (fn.name == "runtime.NumGoroutine") = false := ⟨Try.f132, Try.func132, rfl, rfl⟩
  have key : ∀ N, Contract Try.prog cfg 87 (fs args87 (fun a => [pre87 a, mu87 a < N]) res87) ∧ Contract Try.prog cfg 121 (fs args121 (fun a => [pre121 a, mu121 a < N]) res121) ∧ Contract Try.prog cfg 122 (fs args122 (fun a => [pre122 a, mu122 a < N]) res122) ∧ Contract Try.prog cfg 132 (fs args132 (fun a => [pre132 a, mu132 a < N]) res132) := by
    intro N
    induction N with
    | zero => exact ⟨fs_zero h87, fs_zero h121, fs_zero h122, fs_zero h132⟩
    | succ N ih =>
      have kn := know_ok (l := know87 N) ⟨ih.1, ih.2.1, ih.2.2.1, ih.2.2.2, c118, c119, c120, c48, c135, c138, c56, trivial⟩
      exact ⟨contract_fs (Γ := know (know87 N)) cfgOk rfl kn lv87 Try.func87 rfl rfl (fun a => by show 2 ≤ _; decide) (fun ⟨e, d, _⟩ h => b87 N e d () h.1 h.2.1),
        contract_fs (Γ := know (know87 N)) cfgOk rfl kn lv121 Try.func121 rfl rfl (fun a => by show 2 ≤ _; decide) (fun ⟨l, d, _⟩ h => b121 N l d () h.1 h.2.1),
        contract_fs (Γ := know (know87 N)) cfgOk rfl kn lv122 Try.func122 rfl rfl (fun a => by show 2 ≤ _; decide) (fun ⟨e, d, _⟩ h => b122 N e d () h.1 h.2.1),
        contract_fs (Γ := know (know87 N)) cfgOk rfl kn lv132 Try.func132 rfl rfl (fun a => by show 3 ≤ _; decide) (fun ⟨list, o, d, _⟩ h => b132 N list o d () h.1 h.2.1)⟩
  exact ⟨fs_less h87 fun N => (key N).1, fs_less h121 fun N => (key N).2.1, fs_less h122 fun N => (key N).2.2.1, fs_less h132 fun N => (key N).2.2.2⟩
end Go.AM.Ytlahjnelghpmeaa

namespace Go.AM.Ytlahjnelghpmeaa
open Go.AM Go.Proofs

theorem sameE_iff {e : Edit} : (rightE e 1 = true ∧ e.kind = 0) ↔ sameE e = true := by
  rw [rightE_at]
  simp only [sameE, Bool.and_eq_true, decide_eq_true_eq]
  by_cases hk : e.kind = 0
  · rw [if_neg (by omega)]
    by_cases hb : noneT e.old = true ∧ noneT e.new = true
    · by_cases hw : e.words.length = 0 ∧ e.kids.length = 0
      · by_cases hl : e.list = 0 ∧ e.ops.length = 0
        · have h1 : e.words = [] := List.length_eq_zero_iff.1 hw.1
          have h2 : e.kids = [] := List.length_eq_zero_iff.1 hw.2
          have h3 : e.ops = [] := List.length_eq_zero_iff.1 hl.2
          rw [if_neg (fun h => by rcases h with h | h | h; exact h.2 hb; exact h.2 hw; omega), if_neg (by omega), h1, h2, h3]
          simp only [wordsOk, rightKs, rightOs, lenA, lenB, Bool.true_and, Bool.and_true, Bool.and_eq_true, decide_eq_true_eq]
          refine ⟨fun _ => ⟨⟨⟨hk, hb.1⟩, hb.2⟩, rfl, rfl, rfl, hl.1⟩, fun _ => by simp [hk]⟩
        · rw [if_pos (Or.inr (Or.inr ⟨by omega, by omega⟩))]
          refine ⟨fun h => (nomatch h.1), fun h => absurd ⟨h.2.2.2.2, h.2.2.2.1⟩ hl⟩
      · rw [if_pos (Or.inr (Or.inl ⟨by omega, hw⟩))]
        refine ⟨fun h => (nomatch h.1), fun h => absurd ⟨h.2.1, h.2.2.1⟩ hw⟩
    · rw [if_pos (Or.inl ⟨by omega, hb⟩)]
      refine ⟨fun h => (nomatch h.1), fun h => absurd ⟨h.1.1.2, h.1.2⟩ hb⟩
  · exact ⟨fun h => absurd h.2 hk, fun h => absurd h.1.1.1 hk⟩

theorem b87 : HB87 := by
  intro N e d _ hp hN
  simp only [pre87, mu87] at hp hN
  obtain ⟨⟨hm, hr⟩, hd0, hd1⟩ := hp
  obtain ⟨ik, ro, rn, rw', il, rk, ros⟩ := rngE_at hr
  have hme := len_massE e
  have hkl := massKs_len e.kids
  have hol := massOs_len e.ops
  have hat := rightE_at e d
  refine vc87 N e d _ ?_
  rintro y1 hy1 y2 hy2 y3 hy3
  subst hy1 hy2 hy3
  (simp only [bif_tl, bif_fr, bif_tlf, bif_frf, Bool.not_eq_true', Bool.not_eq_false', decide_eq_true_eq, decide_eq_false_iff_not, beq_iff_eq, beq_eq_false_iff_ne, bne_iff_ne, ne_eq, bne_eq_false_iff_eq, Bool.or_eq_true, Bool.and_eq_true, Bool.or_eq_false_iff, Bool.and_eq_false_imp])
  have hbare : bareE y1 = true ↔ ¬((y1.kind ≠ 1 ∧ ¬(noneT y1.old = true ∧ noneT y1.new = true)) ∨ (y1.kind ≠ 2 ∧ ¬(y1.words.length = 0 ∧ y1.kids.length = 0)) ∨ (y1.kind ≠ 3 ∧ (y1.list ≠ 0 ∨ y1.ops.length ≠ 0))) := by
    unfold bareE
    split
    · rename_i h; exact ⟨fun h => (nomatch h), fun h2 => absurd h h2⟩
    · rename_i h; exact ⟨fun _ => h, fun _ => rfl⟩
  refine ⟨by simp only [pre118]; omega, fun hc => ends_bool rfl ?_, fun hc => ?_⟩
  · rcases hc with hc | hc
    · rw [hat]
      split
      · rfl
      · rw [if_pos (Classical.byContradiction fun h => by rw [hbare.2 h] at hc; cases hc)]
    · rw [hat, if_pos (Or.inl hc)]
  have hb := hbare.1 hc.1
  have hr2 : ¬(y1.kind = 0 ∨ y1.kind = 1 ∨ y1.kind = 2 ∨ y1.kind = 3) → rightE y1 d = false := fun h => by rw [hat, if_pos (by omega)]
  by_cases hk : y1.kind = 0 ∨ y1.kind = 1 ∨ y1.kind = 2 ∨ y1.kind = 3
  · rw [if_neg (by omega), if_neg hb] at hat
    have hw : y1.kind ≠ 2 → y1.words = [] ∧ y1.kids = [] := by
      intro h
      have : y1.words.length = 0 ∧ y1.kids.length = 0 := Classical.byContradiction fun h2 => hb (Or.inr (Or.inl ⟨h, h2⟩))
      exact ⟨List.length_eq_zero_iff.1 this.1, List.length_eq_zero_iff.1 this.2⟩
    have ho : y1.kind ≠ 3 → y1.list = 0 ∧ y1.ops = [] := by
      intro h
      have : y1.list = 0 ∧ y1.ops.length = 0 := by
        constructor
        · exact Classical.byContradiction fun h2 => hb (Or.inr (Or.inr ⟨h, Or.inl h2⟩))
        · exact Classical.byContradiction fun h2 => hb (Or.inr (Or.inr ⟨h, Or.inr h2⟩))
      exact ⟨this.1, List.length_eq_zero_iff.1 this.2⟩
    refine ⟨fun h0 => ends_bool rfl ?_, fun h0 => ⟨fun h1 => ⟨by simp only [pre119]; exact ⟨by omega, ro⟩, fun _ => by simp only [pre119]; exact ⟨by omega, rn⟩, ends_bool rfl ?_⟩, fun h1 => ⟨fun h2 => ⟨by simp only [pre120]; exact ⟨by omega, rw'⟩, fun _ => by unfold InR; omega, fun _ => by simp only [pre121]; exact ⟨⟨by omega, rk⟩, by omega, by omega⟩, fun _ => by simp only [mu121]; omega, ends_bool rfl ?_⟩, fun h2 => ⟨fun h3 => ⟨trivial, fun _ => by unfold InR; omega, fun hl => by simp only [pre122]; exact ⟨⟨by omega, hr, hl⟩, by omega, by omega⟩, fun _ => by simp only [mu122]; omega, ends_bool rfl ?_⟩, fun h3 => ?_⟩⟩⟩⟩
    · rw [hat, if_neg (by omega), (hw (by omega)).1, (hw (by omega)).2, (ho (by omega)).1, (ho (by omega)).2]
      simp [wordsOk, rightKs, rightOs, lenA, lenB]
      omega
    · rw [hat, if_pos h1, Bool.eq_iff_iff]
      (simp only [bif_tl, bif_fr, bif_tlf, bif_frf, Bool.not_eq_true', Bool.not_eq_false', decide_eq_true_eq, decide_eq_false_iff_not, beq_iff_eq, beq_eq_false_iff_ne, bne_iff_ne, ne_eq, bne_eq_false_iff_eq, Bool.or_eq_true, Bool.and_eq_true, Bool.or_eq_false_iff, Bool.and_eq_false_imp])
      exact ⟨fun h => ⟨⟨h.1.2, h.2.2⟩, h.1.1, h.2.1⟩, fun h => ⟨⟨h.2.1, h.1.1⟩, h.2.2, h.1.2⟩⟩
    · rw [hat, if_neg h1, (ho (by omega)).1, (ho (by omega)).2, Bool.eq_iff_iff]
      simp only [rightOs, lenA, lenB]
      (simp only [bif_tl, bif_fr, bif_tlf, bif_frf, Bool.not_eq_true', Bool.not_eq_false', decide_eq_true_eq, decide_eq_false_iff_not, beq_iff_eq, beq_eq_false_iff_ne, bne_iff_ne, ne_eq, bne_eq_false_iff_eq, Bool.or_eq_true, Bool.and_eq_true, Bool.or_eq_false_iff, Bool.and_eq_false_imp])
      constructor
      · rintro ⟨a, b⟩
        exact ⟨⟨⟨⟨a, b⟩, by omega⟩, trivial⟩, by decide⟩
      · rintro ⟨⟨⟨⟨a, b⟩, _⟩, _⟩, _⟩
        exact ⟨a, b⟩
    · rw [hat, if_neg h1, (hw (by omega)).1, (hw (by omega)).2, Bool.eq_iff_iff]
      simp only [wordsOk, rightKs]
      (simp only [bif_tl, bif_fr, bif_tlf, bif_frf, Bool.not_eq_true', Bool.not_eq_false', decide_eq_true_eq, decide_eq_false_iff_not, beq_iff_eq, beq_eq_false_iff_ne, bne_iff_ne, ne_eq, bne_eq_false_iff_eq, Bool.or_eq_true, Bool.and_eq_true, Bool.or_eq_false_iff, Bool.and_eq_false_imp])
      constructor
      · rintro ⟨a, b, c⟩
        exact ⟨⟨⟨⟨trivial, trivial⟩, by omega⟩, b⟩, c⟩
      · rintro ⟨⟨⟨_, a⟩, b⟩, c⟩
        exact ⟨by omega, b, c⟩
    · omega
  · have he := hr2 hk
    refine ⟨fun h0 => by omega, fun h0 => ⟨fun h1 => by omega, fun h1 => ⟨fun h2 => by omega, fun h2 => ⟨fun h3 => by omega, fun h3 => ends_bool rfl ?_⟩⟩⟩⟩
    rw [he]

theorem b121 : HB121 := by
  intro N l d _ hp hN
  simp only [pre121, mu121] at hp hN
  obtain ⟨⟨hm, hr⟩, hd0, hd1⟩ := hp
  have hl := massKs_len l
  refine vc121 N l d _ ?_
  refine loop_rule (ι := Int) (fun i => head121_0 l d i) (fun i => 0 ≤ i ∧ i ≤ l.length ∧ ∃ last, -1 ≤ last ∧ (i = 0 → last = -1) ∧ (0 < i → last = (l.getD (i - 1).toNat (KidOf.mk 0 Edit.nil)).at_) ∧ rightKs last (l.drop i.toNat) d = rightKs (-1) l d) (fun i => ((l.length : Int) - i).toNat) 0 rfl ⟨by omega, by omega, -1, by omega, fun _ => rfl, fun h => by omega, by simp⟩ ?_
  rintro i ⟨g1, g2, last, g3, g4, g5, g6⟩
  refine vc121_l0 N l d i _ _ ?_
  rintro y1 hy1 y2 hy2 y3 hy3
  (simp only [bif_tl, bif_fr, bif_tlf, bif_frf, Bool.not_eq_true', Bool.not_eq_false', decide_eq_true_eq, decide_eq_false_iff_not, beq_iff_eq, beq_eq_false_iff_ne, bne_iff_ne, ne_eq, bne_eq_false_iff_eq, Bool.or_eq_true, Bool.and_eq_true, Bool.or_eq_false_iff, Bool.and_eq_false_imp])
  refine ⟨fun hi => ?_, fun hi => ?_⟩
  · have hmem := mem_getD (l := l) (i := i.toNat) (by omega) (KidOf.mk 0 Edit.nil)
    have hmk := massKs_mem hmem
    have hrk := rngKs_mem hr hmem
    rw [dropI g1 hi (KidOf.mk 0 Edit.nil)] at g6
    rw [← hy1] at g6 hmk hrk
    rw [← hy2] at g5
    rw [← hy3] at hmk hrk
    simp only [rightKs, rightKid_at] at g6
    rw [← hy3] at g6
    have hk : y1.e.kind = y3.kind := by rw [hy3]
    rw [hk]
    have gl : (¬0 < i ∨ ¬y1.at_ ≤ y2.at_) ∧ ¬y1.at_ < 0 ↔ last < y1.at_ ∧ ¬ y1.at_ < 0 := by
      by_cases h0 : 0 < i
      · have := g5 h0; omega
      · have := g4 (by omega); omega
    refine ⟨⟨g1, hi⟩, fun _ => by unfold InR; omega, fun _ => by omega, fun _ => ?_, fun _ => by simp only [mu87]; omega, fun hc => ends_bool rfl ?_, fun hc => ⟨by unfold InR; omega, i + 1, rfl, ⟨by omega, by omega, y1.at_, by omega, fun h => by omega, fun _ => by rw [show (i + 1 - 1).toNat = i.toNat by omega, ← hy1], ?_⟩, by omega⟩⟩
    · simp only [pre87]
      exact ⟨⟨by omega, hrk.2⟩, hd0, hd1⟩
    · rw [← g6]
      by_cases hr : rightE y3 d = true
      · rw [decide_eq_false (fun h => ?_)]
        · rfl
        · rcases hc with hc | hc
          · rcases hc with (hc | hc) | hc
            · omega
            · by_cases h0 : 0 < i
              · have := g5 h0; omega
              · omega
            · exact h.2.2 hc
          · rw [hr] at hc; cases hc
      · simp only [Bool.not_eq_true] at hr
        rw [hr]; simp
    · rw [← g6, hc.2, decide_eq_true (show last < y1.at_ ∧ y1.at_ ≤ 65534 ∧ y3.kind ≠ 0 by
        refine ⟨?_, by omega, hc.1.2⟩
        by_cases h0 : 0 < i
        · have := g5 h0; omega
        · have := g4 (by omega); omega)]
      rfl
  · rw [List.drop_of_length_le (by omega)] at g6
    simp only [res121]
    rw [← g6]
    exact ends_bool rfl rfl

theorem rightOs_every {list d : Int} : ∀ {os : List Op}, (∀ o ∈ os, rightOp list o d = true) → rightOs list os d = true
  | [], _ => rfl
  | o :: r, h => by
    simp only [rightOs, Bool.and_eq_true]
    exact ⟨h o (List.mem_cons_self ..), rightOs_every (fun x hx => h x (List.mem_cons_of_mem _ hx))⟩

theorem b122 : HB122 := by
  intro N e d _ hp hN
  simp only [pre122, mu122] at hp hN
  obtain ⟨⟨hm, hr, hl⟩, hd0, hd1⟩ := hp
  obtain ⟨ik, ro, rn, rw', il, rk, ros⟩ := rngE_at hr
  have hme := len_massE e
  have hol := massOs_len e.ops
  refine vc122 N e d _ ?_
  refine loop_rule (ι := Int) (fun i => head122_0 e d i) (fun i => 0 ≤ i ∧ i ≤ e.ops.length ∧ ∀ o ∈ e.ops.take i.toNat, rightOp e.list o d = true) (fun i => ((e.ops.length : Int) - i).toNat) 0 rfl ⟨by omega, by omega, by simp⟩ ?_
  rintro i ⟨g1, g2, g3⟩
  refine vc122_l0 N e d i _ _ ?_
  rintro y1 hy1 y2 hy2 y3 hy3
  subst hy1 hy3
  (simp only [bif_tl, bif_fr, bif_tlf, bif_frf, Bool.not_eq_true', Bool.not_eq_false', decide_eq_true_eq, decide_eq_false_iff_not, beq_iff_eq, beq_eq_false_iff_ne, bne_iff_ne, ne_eq, bne_eq_false_iff_eq, Bool.or_eq_true, Bool.and_eq_true, Bool.or_eq_false_iff, Bool.and_eq_false_imp])
  refine ⟨fun hi => ?_, fun hi => ?_⟩
  · have hmem := mem_getD (l := y1.ops) (i := i.toNat) (by omega) Op.nil
    have hmo := massOs_mem hmem
    have hro := rngOs_mem ros hmem
    rw [← hy2] at hmem hmo hro
    refine ⟨⟨g1, hi⟩, ?_, by simp only [mu132]; omega, fun hc => ends_bool rfl ?_, fun hc => ⟨by unfold InR; omega, i + 1, rfl, ⟨by omega, by omega, fun o ho => ?_⟩, by omega⟩⟩
    · simp only [pre132]
      exact ⟨⟨by omega, hro, hl⟩, hd0, hd1⟩
    · have : rightOs y1.list y1.ops d = false := by
        rw [← Bool.not_eq_true]
        intro h
        have := rightOs_mem h hmem
        rw [hc] at this; cases this
      rw [this, Bool.false_and]
    · rw [show (i + 1).toNat = i.toNat + 1 by omega, List.take_add_one] at ho
      rcases List.mem_append.1 ho with ho | ho
      · exact g3 o ho
      · have e : y1.ops[i.toNat]? = some y3 := by
          rw [hy2]
          simp [List.getD, List.getElem?_eq_getElem (show i.toNat < y1.ops.length by omega)]
        rw [e] at ho
        simp only [Option.toList_some, List.mem_singleton] at ho
        subst ho
        exact hc
  · rw [List.take_of_length_le (by omega)] at g3
    have hall : rightOs y1.list y1.ops d = true := rightOs_every g3
    have hb : ∀ o ∈ y1.ops, (0 ≤ o.n ∧ o.n ≤ 1048576) ∧ o.l.length ≤ 1000000 := by
      intro o ho
      refine ⟨rightOp_n (g3 o ho), ?_⟩
      have h1 := massOs_mem ho
      rw [massOp_e] at h1
      have h2 := massK_len o.l
      omega
    refine ⟨by simp only [pre56]; omega, ends_bool rfl ?_⟩
    rw [lenAW_eq _ _ hb (by decide) (by decide), lenBW_eq _ _ hb (by decide) (by decide), hall, Bool.true_and]
    by_cases h1 : lenA y1.ops 0 < 1048576 <;> by_cases h2 : lenB y1.ops 0 < 1048576 <;> simp [h1, h2]

theorem b132 : HB132 := by
  intro N list o d _ hp hN
  simp only [pre132, mu132] at hp hN
  obtain ⟨⟨hm, hr, hil⟩, hd0, hd1⟩ := hp
  obtain ⟨ik, inn, rl, re⟩ := rngOp_e hr
  rw [massOp_e] at hm hN
  have hll := massK_len o.l
  have hep := massE_pos o.e
  have hat := rightOp_at list o d
  have hs := sameE_iff (e := o.e)
  refine vc132 N list o d _ ?_
  rintro y1 hy1 y2 hy2
  subst hy1
  (simp only [bif_tl, bif_fr, bif_tlf, bif_frf, Bool.not_eq_true', Bool.not_eq_false', decide_eq_true_eq, decide_eq_false_iff_not, beq_iff_eq, beq_eq_false_iff_ne, bne_iff_ne, ne_eq, bne_eq_false_iff_eq, Bool.or_eq_true, Bool.and_eq_true, Bool.or_eq_false_iff, Bool.and_eq_false_imp])
  have hp87 : pre87 (o.e, 1, ()) := by simp only [pre87]; exact ⟨⟨by omega, re⟩, by omega, by omega⟩
  have hm87 : mu87 (o.e, 1, ()) < N := by simp only [mu87]; omega
  have hp135 : pre135 (o.l, (list, ()), ()) := by simp only [pre135]; exact ⟨by omega, rl, by unfold isI; omega⟩
  have h12 : o.kind = 1 ∨ o.kind = 2 → y2 = .bool (rightOp list o d) := by
    intro hk
    rw [hy2, hat, if_neg (by omega)]
    congr 1
    rw [Bool.eq_iff_iff]
    (simp only [bif_tl, bif_fr, bif_tlf, bif_frf, Bool.not_eq_true', Bool.not_eq_false', decide_eq_true_eq, decide_eq_false_iff_not, beq_iff_eq, beq_eq_false_iff_ne, bne_iff_ne, ne_eq, bne_eq_false_iff_eq, Bool.or_eq_true, Bool.and_eq_true, Bool.or_eq_false_iff, Bool.and_eq_false_imp])
    by_cases hn : o.n = 0
    · rw [if_neg (by omega), if_pos (by omega)]
      (simp only [bif_tl, bif_fr, bif_tlf, bif_frf, Bool.not_eq_true', Bool.not_eq_false', decide_eq_true_eq, decide_eq_false_iff_not, beq_iff_eq, beq_eq_false_iff_ne, bne_iff_ne, ne_eq, bne_eq_false_iff_eq, Bool.or_eq_true, Bool.and_eq_true, Bool.or_eq_false_iff, Bool.and_eq_false_imp])
      constructor
      · rintro ⟨⟨⟨⟨h1, h2⟩, h3⟩, h4⟩, h5⟩
        exact ⟨⟨h5, by omega⟩, hs.1 ⟨h3, h4⟩⟩
      · rintro ⟨⟨h5, h2⟩, h3⟩
        have := hs.2 h3
        exact ⟨⟨⟨⟨hn, by omega⟩, this.1⟩, this.2⟩, h5⟩
    · rw [if_pos (by omega)]
      exact ⟨fun h => absurd h.1.1.1.1 hn, fun h => (nomatch h)⟩
  refine ⟨fun hk => ⟨fun _ => hp87, fun _ => hm87, ends_bool rfl ?_⟩, fun hk => ⟨fun hk1 => ⟨fun _ => hp87, fun _ => hm87, fun _ => hp135, ?_⟩, fun hk1 => ⟨fun hk2 => ⟨fun _ => hp87, fun _ => hm87, fun _ => hp135, ?_⟩, fun hk2 => ⟨fun hk3 => ⟨fun _ => trivial, fun _ => ?_, fun _ => by simp only [mu87]; omega, ends_bool rfl ?_⟩, fun hk3 => ends_bool rfl ?_⟩⟩⟩⟩
  · rw [hat, if_pos hk, Bool.eq_iff_iff]
    (simp only [bif_tl, bif_fr, bif_tlf, bif_frf, Bool.not_eq_true', Bool.not_eq_false', decide_eq_true_eq, decide_eq_false_iff_not, beq_iff_eq, beq_eq_false_iff_ne, bne_iff_ne, ne_eq, bne_eq_false_iff_eq, Bool.or_eq_true, Bool.and_eq_true, Bool.or_eq_false_iff, Bool.and_eq_false_imp])
    constructor
    · rintro ⟨⟨⟨h1, h2⟩, h3⟩, h4⟩
      exact ⟨⟨h1.1, h1.2, by omega⟩, hs.1 ⟨h3, h4⟩⟩
    · rintro ⟨⟨h1, h2, h3⟩, h4⟩
      have := hs.2 h4
      exact ⟨⟨⟨⟨h1, h2⟩, by omega⟩, this.1⟩, this.2⟩
  · rw [h12 (Or.inl hk1)]
    exact ends_bool rfl rfl
  · rw [h12 (Or.inr hk2)]
    exact ends_bool rfl rfl
  · simp only [pre87]; exact ⟨⟨by omega, re⟩, hd0, hd1⟩
  · rw [hat, if_neg hk, Bool.eq_iff_iff]
    by_cases hn : o.n = 0
    · rw [if_neg (by omega), if_neg (by omega)]
      have hw : withinB list o.e = true ↔ (o.e.kind ≠ 0 ∧ 7 < list) ∧ (list = 8 ∨ o.e.kind = 2 ∨ o.e.kind = 1 ∧ o.e.old.kind = 1 ∧ o.e.new.kind = 1) := by
        unfold withinB
        split
        · exact ⟨fun h => (nomatch h), fun h => by omega⟩
        · split
          · exact ⟨fun _ => ⟨by omega, by omega⟩, fun _ => rfl⟩
          · rw [decide_eq_true_eq]
            exact ⟨fun h => ⟨by omega, Or.inr (Or.inr h)⟩, fun h => by omega⟩
      (simp only [bif_tl, bif_fr, bif_tlf, bif_frf, Bool.not_eq_true', Bool.not_eq_false', decide_eq_true_eq, decide_eq_false_iff_not, beq_iff_eq, beq_eq_false_iff_ne, bne_iff_ne, ne_eq, bne_eq_false_iff_eq, Bool.or_eq_true, Bool.and_eq_true, Bool.or_eq_false_iff, Bool.and_eq_false_imp])
      rw [hw]
      constructor
      · rintro ⟨⟨h1, h2⟩, h3⟩
        exact ⟨⟨⟨by omega, h2.1⟩, h3⟩, h2.2⟩
      · rintro ⟨⟨⟨h1, h2⟩, h3⟩, h4⟩
        exact ⟨⟨⟨hn, by omega⟩, h2, h4⟩, h3⟩
    · rw [if_pos (by omega)]
      (simp only [bif_tl, bif_fr, bif_tlf, bif_frf, Bool.not_eq_true', Bool.not_eq_false', decide_eq_true_eq, decide_eq_false_iff_not, beq_iff_eq, beq_eq_false_iff_ne, bne_iff_ne, ne_eq, bne_eq_false_iff_eq, Bool.or_eq_true, Bool.and_eq_true, Bool.or_eq_false_iff, Bool.and_eq_false_imp])
      exact ⟨fun h => absurd h.1.1.1 hn, fun h => (nomatch h)⟩
  · rw [hat, if_neg hk]
    by_cases hn : o.n ≠ 0 ∨ o.kind < 0 ∨ 3 < o.kind
    · rw [if_pos hn]
    · exfalso; omega

theorem c87_ : Contract Try.prog cfg 87 spec87 ∧ Contract Try.prog cfg 121 spec121 ∧ Contract Try.prog cfg 122 spec122 ∧ Contract Try.prog cfg 132 spec132 :=
  make87_ c118 c119 c120 c48 c135 c138 c56 b87 b121 b122 b132

theorem c58 : Contract Try.prog cfg 58 spec58 := by
  refine make58 c87_.1 ?_
  intro e _ hp
  simp only [pre58] at hp
  refine vc58 _ _ ?_
  (simp only [Tree.eta, Edit.eta, Tree.kind_mk, Tree.words_mk, Tree.kids_mk])
  refine ⟨by simp only [pre87]; exact ⟨hp, by omega, by omega⟩, ?_⟩
  exact ends_bool rfl rfl

end Go.AM.Ytlahjnelghpmeaa

namespace Go.AM.Ytlahjnelghpmeaa
open Go.AM Go.Proofs

def pre6 (a : Tree × Unit) : Prop := small a.1
/-! cento/centolaw07.TreeNorms -/
/-! cento/centolaw07.TreeEqual -/
end Go.AM.Ytlahjnelghpmeaa

namespace Go.AM.Ytlahjnelghpmeaa
open Go.AM Go.Proofs

theorem trim_idem (l : List Int) : trim (trim l) = trim l := by
  induction l with
  | nil => rfl
  | cons x r ih =>
    rw [trim_cons]
    split
    · rfl
    · rename_i h
      rw [trim_cons, ih, if_neg h]

theorem trimK_idem (l : List Tree) : trimK (trimK l) = trimK l := by
  induction l with
  | nil => rfl
  | cons x r ih =>
    rw [trimK_cons]
    split
    · rfl
    · rename_i h
      rw [trimK_cons, ih, if_neg h]

/-- Every one is its own Norm. -/
def Normed : List Tree → Prop
  | [] => True
  | t :: r => normT t = t ∧ Normed r

theorem Normed.eq : ∀ {l : List Tree}, Normed l → normK l = l
  | [], _ => rfl
  | t :: r, h => by simp only [normK, h.1, Normed.eq h.2]

theorem Normed.trim : ∀ {l : List Tree}, Normed l → Normed (trimK l)
  | [], _ => trivial
  | t :: r, h => by
    rw [trimK_cons]
    split
    · trivial
    · exact ⟨h.1, Normed.trim h.2⟩

mutual
theorem normT_idem : ∀ (t : Tree), normT (normT t) = normT t
  | .mk k w ks => by
    have h := normK_normed ks
    by_cases h0 : k = 0
    · simp [normT, h0, Tree.nil]
    · by_cases h1 : k = 1
      · subst h1
        simp only [normT, if_neg h0, if_true, trim_idem, h.trim.eq, trimK_idem]
      · simp only [normT, if_neg h0, if_neg h1, h.eq]
theorem normK_normed : ∀ (ks : List Tree), Normed (normK ks)
  | [] => trivial
  | t :: r => ⟨normT_idem t, normK_normed r⟩
end


end Go.AM.Ytlahjnelghpmeaa

namespace Go.AM.Ytlahjnelghpmeaa
open Go.AM Go.Proofs

theorem nrmOs_append (list : Int) : ∀ (a b : List Op) (s : Wst), nrmOs list (a ++ b) s = nrmOs list b (nrmOs list a s)
  | [], b, s => rfl
  | o :: r, b, s => by simp only [List.cons_append, nrmOs, nrmOs_append list r]

theorem keepO_keepO : ∀ (l : List Op) (m n : Int), keepO (keepO l m) n = keepO l (m + n)
  | [], m, n => by simp [keepO]
  | [o], m, n => by
    by_cases h : o.kind = 0
    · simp [keepO, h, Int.add_assoc]
    · simp [keepO, h]
  | o :: p :: r, m, n => by
    have ih := keepO_keepO (p :: r) m n
    cases hk : keepO (p :: r) m with
    | nil => cases r <;> simp [keepO] at hk; split at hk <;> cases hk
    | cons x y =>
      rw [hk] at ih
      simp only [keepO]
      rw [hk]
      simp only [keepO]
      rw [ih]

/-- Kept behind: put behind, or merged with what is kept last. -/
theorem keepO_cases : ∀ (l : List Op) (n : Int), keepO l n = l ++ [⟨0, n, [], Edit.nil⟩] ∨ ∃ a o, l = a ++ [o] ∧ o.kind = 0 ∧ keepO l n = a ++ [⟨o.kind, o.n + n, o.l, o.e⟩]
  | [], n => Or.inl rfl
  | [o], n => by
    by_cases h : o.kind = 0
    · exact Or.inr ⟨[], o, rfl, h, by simp [keepO, h]⟩
    · exact Or.inl (by simp [keepO, h])
  | o :: p :: r, n => by
    rcases keepO_cases (p :: r) n with h | ⟨a, q, h1, h2, h3⟩
    · exact Or.inl (by simp only [keepO, h, List.cons_append])
    · exact Or.inr ⟨o :: a, q, by rw [h1]; rfl, h2, by simp only [keepO, h3, List.cons_append]⟩

def W0 : Wst := ⟨[], [], []⟩
theorem nrm_keep (list : Int) (o : Op) (s : Wst) (h : o.kind = 0) : nrmOs list [o] s = keepW s o.n := by
  simp only [nrmOs, nrmOp_at, h, if_true]

theorem normsT_idem (l : List Tree) : normsT (normsT l) = normsT l := by
  simp only [normsT, List.map_map]
  congr 1
  funext t
  exact normT_idem t

theorem normsT_append (a b : List Tree) : normsT (a ++ b) = normsT a ++ normsT b := by simp [normsT]


/-! ## it has no more edits and steps -/

end Go.AM.Ytlahjnelghpmeaa

namespace Go.AM.Ytlahjnelghpmeaa
open Go.AM Go.Proofs

/-! (*cento/normal.writer).flush -/
/-! (*cento/normal.writer).keep -/
/-! cento/normal.wait -/
/-! cento/normal.wait -/
/-! cento/normal.Idle -/
/-! cento/centoref22.idle -/
end Go.AM.Ytlahjnelghpmeaa

namespace Go.AM.Ytlahjnelghpmeaa
open Go.AM Go.Proofs

end Go.AM.Ytlahjnelghpmeaa

namespace Go.AM.Ytlahjnelghpmeaa
open Go.AM Go.Proofs

/-! cento/normal.Edit -/
/-! cento/normal.Ops -/
end Go.AM.Ytlahjnelghpmeaa

namespace Go.AM.Ytlahjnelghpmeaa
open Go.AM Go.Proofs

end Go.AM.Ytlahjnelghpmeaa

namespace Go.AM.Ytlahjnelghpmeaa
open Go.AM Go.Proofs

/-! cento/centoref22.Edit -/
/-! cento/centoref22.Ops -/
end Go.AM.Ytlahjnelghpmeaa

namespace Go.AM.Ytlahjnelghpmeaa
open Go.AM Go.Proofs

end Go.AM.Ytlahjnelghpmeaa

namespace Go.AM.Ytlahjnelghpmeaa
open Go.AM Go.Proofs

theorem turnOs_append : ∀ (a b : List Op), turnOs (a ++ b) = turnOs a ++ turnOs b
  | [], b => rfl
  | o :: r, b => by simp only [List.cons_append, turnOs, turnOs_append r b]

theorem turnW_turn (w : WEdit) : turnW (turnW w) = w := by cases w; rfl
theorem map_turnW (l : List WEdit) : (l.map turnW).map turnW = l := by
  rw [List.map_map]
  have : turnW ∘ turnW = id := by funext w; exact turnW_turn w
  rw [this, List.map_id]

/-- What turned steps come to (w), and what the steps themselves do (v). -/
def Tw (list : Int) (w v : Wst) : Prop := nrmOs list (turnOs w.out) W0 = ⟨v.out, [], []⟩ ∧ (v.gone = w.brought ∧ v.brought = w.gone) ∧ normsT w.gone = w.gone ∧ normsT w.brought = w.brought

theorem tw_flush {list : Int} {w v : Wst} (h : Tw list w v) : nrmOs list (turnOs (flushW w).out) W0 = v := by
  obtain ⟨h1, ⟨h2, h3⟩, h4, h5⟩ := h
  obtain ⟨out, g, b⟩ := w
  obtain ⟨vo, vg, vb⟩ := v
  simp only at h2 h3 h4 h5 h1
  rw [h2, h3]
  simp only [flushW, flushO]
  rw [turnOs_append, nrmOs_append, h1, turnOs_append, nrmOs_append]
  by_cases hg : g.length = 0
  · rw [if_pos hg]
    have : g = [] := List.length_eq_zero_iff.1 hg
    subst this
    by_cases hb : b.length = 0
    · rw [if_pos hb]
      have : b = [] := List.length_eq_zero_iff.1 hb
      subst this
      rfl
    · rw [if_neg hb]
      simp [turnOs, turnOp, nrmOs, nrmOp_at, h5]
  · rw [if_neg hg]
    by_cases hb : b.length = 0
    · rw [if_pos hb]
      have : b = [] := List.length_eq_zero_iff.1 hb
      subst this
      simp [turnOs, turnOp, nrmOs, nrmOp_at, h4]
    · rw [if_neg hb]
      simp [turnOs, turnOp, nrmOs, nrmOp_at, h4, h5]

theorem turn_keep (o : Op) (h : o.kind = 0) : turnOs [o] = [o] := by
  obtain ⟨k, n, l, e⟩ := o
  simp only at h
  subst h
  rfl

theorem tw_keep {list : Int} {w v : Wst} (h : Tw list w v) (n : Int) : Tw list (keepW w n) (keepW v n) := by
  have hf := tw_flush h
  refine ⟨?_, ⟨rfl, rfl⟩, rfl, rfl⟩
  show nrmOs list (turnOs (keepO (flushW w).out n)) W0 = ⟨keepO (flushW v).out n, [], []⟩
  rcases keepO_cases (flushW w).out n with e | ⟨a, o, e1, e2, e3⟩
  · rw [e, turnOs_append, nrmOs_append, hf, turn_keep _ rfl, nrm_keep _ _ _ rfl]
    rfl
  · rw [e1, turnOs_append, nrmOs_append, turn_keep _ e2, nrm_keep _ _ _ e2] at hf
    rw [e3, turnOs_append, nrmOs_append, turn_keep ⟨o.kind, o.n + n, o.l, o.e⟩ e2, nrm_keep list ⟨o.kind, o.n + n, o.l, o.e⟩ _ e2]
    have ho : keepO (flushW (nrmOs list (turnOs a) W0)).out o.n = v.out ∧ v.gone = [] ∧ v.brought = [] := by
      rw [← hf]; exact ⟨rfl, rfl, rfl⟩
    have hw : (flushW v).out = v.out := by simp [flushW, flushO, ho.2.1, ho.2.2]
    show (⟨keepO (flushW (nrmOs list (turnOs a) W0)).out (o.n + n), [], []⟩ : Wst) = _
    rw [← keepO_keepO, ho.1, hw]

theorem nrmKs_len : ∀ (ks : List Kid), (nrmKs ks).length = ks.length
  | [] => rfl
  | k :: r => by simp only [nrmKs, List.length_cons, nrmKs_len r]
theorem turnKs_len : ∀ (ks : List Kid), (turnKs ks).length = ks.length
  | [] => rfl
  | k :: r => by simp only [turnKs, List.length_cons, turnKs_len r]

theorem idle_turn (list : Int) (e : Edit) : idleE list (nrmE (turnE e)) = idleE list (nrmE e) := by
  obtain ⟨k, o, n, w, ks, l, os⟩ := e
  simp only [turnE, nrmE]
  by_cases k1 : k = 1
  · rw [if_pos k1, if_pos k1]; rfl
  · rw [if_neg k1, if_neg k1]
    by_cases k2 : k = 2
    · rw [if_pos k2, if_pos k2]; simp only [idleE, Edit.kind_mk, Edit.words_mk, Edit.kids_mk, List.length_map, nrmKs_len, turnKs_len]
    · rw [if_neg k2, if_neg k2]
      by_cases k3 : k = 3
      · rw [if_pos k3, if_pos k3]; rfl
      · rw [if_neg k3, if_neg k3]

theorem tw_op {list : Int} {w v : Wst} {o : Op} (h : Tw list w v) (hi : nrmE (turnE (nrmE (turnE o.e))) = nrmE o.e) : Tw list (nrmOp list (turnOp o) w) (nrmOp list o v) := by
  obtain ⟨k, n, l, e⟩ := o
  simp only at hi
  have hq := h
  obtain ⟨h1, ⟨h2, h3⟩, h4, h5⟩ := hq
  by_cases k1 : k = 1
  · subst k1
    have e1 : turnOp ⟨1, n, l, e⟩ = ⟨2, n, l, e⟩ := rfl
    rw [e1, nrmOp_at, nrmOp_at]
    simp only [show ¬(2 : Int) = 0 by decide, show ¬(2 : Int) = 1 by decide, show ¬(1 : Int) = 0 by decide, if_true, if_false]
    exact ⟨h1, ⟨by rw [h2], h3⟩, h4, by simp only [normsT_append, normsT_idem, h5]⟩
  by_cases k2 : k = 2
  · subst k2
    have e1 : turnOp ⟨2, n, l, e⟩ = ⟨1, n, l, e⟩ := rfl
    rw [e1, nrmOp_at, nrmOp_at]
    simp only [show ¬(2 : Int) = 0 by decide, show ¬(2 : Int) = 1 by decide, show ¬(1 : Int) = 0 by decide, if_true, if_false]
    exact ⟨h1, ⟨h2, by rw [h3]⟩, by simp only [normsT_append, normsT_idem, h4], h5⟩
  by_cases k3 : k = 3
  · subst k3
    have e1 : turnOp ⟨3, n, l, e⟩ = ⟨3, n, l, turnE e⟩ := rfl
    rw [e1, nrmOp_at, nrmOp_at]
    simp only [show ¬(3 : Int) = 0 by decide, show ¬(3 : Int) = 1 by decide, show ¬(3 : Int) = 2 by decide, if_true, if_false]
    rw [idle_turn]
    by_cases hd : idleE list (nrmE e) = true
    · rw [if_pos hd, if_pos hd]; exact tw_keep h 1
    · rw [if_neg hd, if_neg hd]
      refine ⟨?_, ⟨rfl, rfl⟩, rfl, rfl⟩
      have hf := tw_flush h
      show nrmOs list (turnOs ((flushW w).out ++ [⟨3, 0, [], nrmE (turnE e)⟩])) W0 = _
      rw [turnOs_append, nrmOs_append, hf]
      have e2 : turnOs [(⟨3, 0, [], nrmE (turnE e)⟩ : Op)] = [⟨3, 0, [], turnE (nrmE (turnE e))⟩] := rfl
      rw [e2]
      simp only [nrmOs, nrmOp_at]
      simp only [show ¬(3 : Int) = 0 by decide, show ¬(3 : Int) = 1 by decide, show ¬(3 : Int) = 2 by decide, if_true, if_false]
      rw [hi, if_neg hd]
  · have e1 : turnOp ⟨k, n, l, e⟩ = ⟨k, n, l, e⟩ := by simp only [turnOp]; rw [if_neg k1, if_neg k2, if_neg k3]
    rw [e1, nrmOp_at, nrmOp_at]
    by_cases k0 : k = 0
    · simp only [k0, if_true]; exact tw_keep h n
    · simp only [k0, k1, k2, k3, if_false]; exact h

mutual
theorem twice : ∀ (e : Edit), nrmE (turnE (nrmE (turnE e))) = nrmE e
  | .mk k o n w ks l os => by
    have h1 := twice_Ks ks
    have h2 := twice_Os l os W0 W0 ⟨rfl, ⟨rfl, rfl⟩, rfl, rfl⟩
    have h3 := tw_flush h2
    rw [turnE, nrmE, nrmE]
    by_cases k1 : k = 1
    · rw [if_pos k1, if_pos k1, turnE, nrmE, if_pos k1, normT_idem, normT_idem]
    · rw [if_neg k1, if_neg k1]
      by_cases k2 : k = 2
      · rw [if_pos k2, if_pos k2, turnE, nrmE, if_neg k1, if_pos k2, map_turnW, h1]
      · rw [if_neg k2, if_neg k2]
        by_cases k3 : k = 3
        · rw [if_pos k3, if_pos k3, turnE, nrmE, if_neg k1, if_neg k2, if_pos k3]
          show Edit.mk k Tree.nil Tree.nil [] [] l (flushW (nrmOs l (turnOs (flushW (nrmOs l (turnOs os) W0)).out) W0)).out = Edit.mk k Tree.nil Tree.nil [] [] l (flushW (nrmOs l os W0)).out
          rw [h3]
        · rw [if_neg k3, if_neg k3, turnE, nrmE, if_neg k1, if_neg k2, if_neg k3]
theorem twice_Ks : ∀ (ks : List (KidOf Edit)), nrmKs (turnKs (nrmKs (turnKs ks))) = nrmKs ks
  | [] => rfl
  | k :: r => by
    have h1 := twice_Kid k
    have h2 := twice_Ks r
    simp only [nrmKs, turnKs]
    rw [h1, h2]
theorem twice_Kid : ∀ (k : KidOf Edit), nrmKid (turnKid (nrmKid (turnKid k))) = nrmKid k
  | ⟨a, e⟩ => by
    have h := twice e
    simp only [nrmKid, turnKid]
    rw [h]
theorem twice_Os (list : Int) : ∀ (os : List (OpOf Edit)) (w v : Wst), Tw list w v → Tw list (nrmOs list (turnOs os) w) (nrmOs list os v)
  | [], w, v, h => h
  | o :: r, w, v, h => by
    have h1 := twice_Op list o w v h
    exact twice_Os list r _ _ h1
theorem twice_Op (list : Int) : ∀ (o : OpOf Edit) (w v : Wst), Tw list w v → Tw list (nrmOp list (turnOp o) w) (nrmOp list o v)
  | ⟨k, n, l, e⟩, w, v, h => tw_op (o := ⟨k, n, l, e⟩) h (twice e)
end

end Go.AM.Ytlahjnelghpmeaa

namespace Go.AM.Ytlahjnelghpmeaa
open Go.AM Go.Proofs


end Go.AM.Ytlahjnelghpmeaa

namespace Go.AM.Ytlahjnelghpmeaa
open Go.AM Go.Proofs


end Go.AM.Ytlahjnelghpmeaa

namespace Go.AM.Ytlahjnelghpmeaa
open Go.AM Go.Proofs


end Go.AM.Ytlahjnelghpmeaa

namespace Go.AM.Ytlahjnelghpmeaa
open Go.AM Go.Proofs

/-! ## mass -/


end Go.AM.Ytlahjnelghpmeaa

namespace Go.AM.Ytlahjnelghpmeaa
open Go.AM Go.Proofs

/-! cento/centolaw22.awake -/
/-! cento/centolaw22.NormalWrites -/
/-! cento/centolaw22.NormalOnce -/
end Go.AM.Ytlahjnelghpmeaa

namespace Go.AM.Ytlahjnelghpmeaa
open Go.AM Go.Proofs

/-- Right, but for how much is kept. -/
def rOp (list : Int) (d : Int) (o : Op) : Prop := (o.kind = 0 → 1 ≤ o.n ∧ o.l.length = 0 ∧ sameE o.e = true) ∧ (o.kind ≠ 0 → rightOp list o d = true)

structure OkW (list d : Int) (w : Wst) : Prop where
  out : ∀ o ∈ w.out, rOp list d o
  gone : treesOk list w.gone = true
  brought : treesOk list w.brought = true

/-! ## lengths -/


end Go.AM.Ytlahjnelghpmeaa

namespace Go.AM.Ytlahjnelghpmeaa
open Go.AM Go.Proofs

end Go.AM.Ytlahjnelghpmeaa
