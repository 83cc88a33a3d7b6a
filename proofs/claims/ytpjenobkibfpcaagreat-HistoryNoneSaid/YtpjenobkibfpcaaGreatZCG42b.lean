import Derived.Test.YtpjenobkibfpcaaGreatZKB20g
import Derived.Test.YtpjenobkibfpcaaGreatZKB20e
import Derived.Test.YtpjenobkibfpcaaGreatZKB22b
import Derived.Test.YtpjenobkibfpcaaGreatZCL25m
import Derived.Test.YtpjenobkibfpcaaGreatZKG22c
set_option linter.unusedSimpArgs false
set_option linter.unusedVariables false
namespace Go.AM.YtpjenobkibfpcaaGreat
open Go.AM Go.Proofs
abbrev TrZKG20z (p : Prop) : Prop := p → p
noncomputable section
def args78 : ArgL (Edit × Int × Unit) := (.cons (aEl .edit) (.cons (aInt .i64) .nil))
def pre78 (a : Edit × Int × Unit) : Prop := (massE a.1 ≤ 18000000000 ∧ rngE a.1) ∧ 0 ≤ a.2.1 ∧ a.2.1 ≤ 1000
def mu78 (a : Edit × Int × Unit) : Nat := 4 * massE a.1
noncomputable def res78 (a : Edit × Int × Unit) : V U := .c (.bool (rightE a.1 a.2.1))
noncomputable def spec78 : Fs U := fs args78 (fun a => [pre78 a]) res78
def args124 : ArgL (List Kid × Int × Unit) := (.cons (aSl .kid) (.cons (aInt .i64) .nil))
def pre124 (a : List Kid × Int × Unit) : Prop := (massKs a.1 ≤ 18000000000 ∧ rngKs a.1) ∧ 0 ≤ a.2.1 ∧ a.2.1 ≤ 1000
def mu124 (a : List Kid × Int × Unit) : Nat := 4 * massKs a.1 + 2
noncomputable def res124 (a : List Kid × Int × Unit) : V U := .c (.bool (rightKs (-1) a.1 a.2.1))
noncomputable def spec124 : Fs U := fs args124 (fun a => [pre124 a]) res124
def args126 : ArgL (Edit × Int × Unit) := (.cons (aEl .edit) (.cons (aInt .i64) .nil))
def pre126 (a : Edit × Int × Unit) : Prop := (massE a.1 ≤ 18000000000 ∧ rngE a.1 ∧ 2 ≤ Edit.list a.1 ∧ Edit.list a.1 ≤ 9) ∧ 0 ≤ a.2.1 ∧ a.2.1 ≤ 1000
def mu126 (a : Edit × Int × Unit) : Nat := 4 * massOs (Edit.ops a.1) + 2
noncomputable def res126 (a : Edit × Int × Unit) : V U := .c (.bool (rightOs (Edit.list a.1) (Edit.ops a.1) a.2.1 && decide (lenA (Edit.ops a.1) 0 < 1048576 ∧ lenB (Edit.ops a.1) 0 < 1048576)))
noncomputable def spec126 : Fs U := fs args126 (fun a => [pre126 a]) res126
def args179 : ArgL (Int × Op × Int × Unit) := (.cons (aInt .i64) (.cons (aEl .op) (.cons (aInt .i64) .nil)))
def pre179 (a : Int × Op × Int × Unit) : Prop := (massOp a.2.1 ≤ 18000000000 ∧ rngOp a.2.1 ∧ 2 ≤ a.1 ∧ a.1 ≤ 9) ∧ 0 ≤ a.2.2.1 ∧ a.2.2.1 ≤ 1000
def mu179 (a : Int × Op × Int × Unit) : Nat := 4 * massOp a.2.1 + 1
noncomputable def res179 (a : Int × Op × Int × Unit) : V U := .c (.bool (rightOp a.1 a.2.1 a.2.2.1))
noncomputable def spec179 : Fs U := fs args179 (fun a => [pre179 a]) res179
def args28 : ArgL (Edit × Unit) := (.cons (aEl .edit) .nil)
def pre28 (a : Edit × Unit) : Prop := massE a.1 ≤ 18000000000 ∧ rngE a.1
noncomputable def res28 (a : Edit × Unit) : V U := .c (.bool (rightE a.1 64))
noncomputable def spec28 : Fs U := fs args28 (fun a => [pre28 a]) res28
noncomputable def know78 (N : Nat) : List (FuncId × Fs U) := (78, fs args78 (fun a => [pre78 a, mu78 a < N]) res78) :: (124, fs args124 (fun a => [pre124 a, mu124 a < N]) res124) :: (126, fs args126 (fun a => [pre126 a, mu126 a < N]) res126) :: (179, fs args179 (fun a => [pre179 a, mu179 a < N]) res179) :: [(121, spec121), (122, spec122), (123, spec123), (125, spec125), (216, spec216), (219, spec219), (169, spec169)]
def lv78 : Lives U := fun i => match i with
  | 0 => ([(1, []), (2, [])], [((.loc 2), [])])
  | 1 => ([(1, []), (2, []), (11, [])], [((.loc 2), [])])
  | 2 => ([(4, [])], [])
  | 3 => ([(1, []), (2, []), (13, [])], [((.loc 2), [])])
  | 4 => ([(1, []), (2, []), (13, []), (14, [])], [((.loc 2), [])])
  | 5 => ([(4, [])], [])
  | 6 => ([(1, []), (2, []), (13, []), (16, [])], [((.loc 2), [])])
  | 7 => ([(4, [])], [])
  | 8 => ([(1, []), (2, []), (13, []), (26, [])], [((.loc 2), [])])
  | 9 => ([(4, [])], [])
  | 10 => ([(1, []), (2, []), (38, [])], [((.loc 2), [])])
  | 11 => ([(4, [])], [])
  | 12 => ([(4, [])], [])
  | _ => ([], [])
abbrev W78 (N : Nat) (e : Edit) (d : Int) (Q : AExit → LSt U → Prop) := awp cfg (know (know78 N)) (drawOk cfg (know (know78 N))) Tryz.f78.ntmps lv78 (cd Tryz.f78 []) (⟨[(0, .agg [.int .i64 (Edit.kind e), .int .i64 (Tree.kind (Edit.old e)), .slice (U := U) .u64 (Tree.words (Edit.old e)) .unk, .slice (U := U) .tree (Tree.kids (Edit.old e)) .unk, .int .i64 (Tree.kind (Edit.new e)), .slice (U := U) .u64 (Tree.words (Edit.new e)) .unk, .slice (U := U) .tree (Tree.kids (Edit.new e)) .unk, .slice (U := U) .wedit (Edit.words e) .unk, .slice (U := U) .kid (Edit.kids e) .unk, .int .i64 (Edit.list e), .slice (U := U) .op (Edit.ops e) .unk]), (1, .c (.int .i64 d))], [], []⟩ : LSt U) Q
theorem vc78 (N : Nat) (e : Edit) (d : Int) (Q : AExit → LSt U → Prop) (h : ∀ y_1, y_1 = (e) → ∀ y_2, y_2 = ((Edit.new e)) → ∀ y_3, y_3 = ((Edit.old e)) → (pre121 (y_1, ())) ∧ (((bif (!(bareE y_1)) then true else ((d : Int) == 0)) = true → Q .ret (⟨[(4, .c (.bool false))], [], []⟩ : LSt U)) ∧ ((bif (!(bareE y_1)) then true else ((d : Int) == 0)) = false → ((((Edit.kind e) : Int) == 0) = true → Q .ret (⟨[(4, .c (.bool true))], [], []⟩ : LSt U)) ∧ ((((Edit.kind e) : Int) == 0) = false → ((((Edit.kind e) : Int) == 1) = true → (pre122 (y_3, ())) ∧ (((decide (Tree.kind y_3 ≠ 10) && rightT y_3 64)) = true → pre122 (y_2, ())) ∧ (Q .ret (⟨[(4, .c (.bool (bif (decide (Tree.kind y_3 ≠ 10) && rightT y_3 64) then (decide (Tree.kind y_2 ≠ 10) && rightT y_2 64) else false)))], [], []⟩ : LSt U))) ∧ ((((Edit.kind e) : Int) == 1) = false → ((((Edit.kind e) : Int) == 2) = true → (pre123 ((Edit.words e), ())) ∧ ((wordsOk (-1) (Edit.words e)) = true → InR ((d : Int) - 1)) ∧ ((wordsOk (-1) (Edit.words e)) = true → pre124 ((Edit.kids e), ((d : Int) - 1), ())) ∧ ((wordsOk (-1) (Edit.words e)) = true → mu124 ((Edit.kids e), ((d : Int) - 1), ()) < N) ∧ (Q .ret (⟨[(4, .c (.bool (bif (wordsOk (-1) (Edit.words e)) then (rightKs (-1) (Edit.kids e) ((d : Int) - 1)) else false)))], [], []⟩ : LSt U))) ∧ ((((Edit.kind e) : Int) == 2) = false → ((((Edit.kind e) : Int) == 3) = true → (pre125 ((Edit.list e), ())) ∧ ((decide (2 ≤ (Edit.list e) ∧ (Edit.list e) ≤ 9)) = true → InR ((d : Int) - 1)) ∧ ((decide (2 ≤ (Edit.list e) ∧ (Edit.list e) ≤ 9)) = true → pre126 (y_1, ((d : Int) - 1), ())) ∧ ((decide (2 ≤ (Edit.list e) ∧ (Edit.list e) ≤ 9)) = true → mu126 (y_1, ((d : Int) - 1), ()) < N) ∧ (Q .ret (⟨[(4, .c (.bool (bif (decide (2 ≤ (Edit.list e) ∧ (Edit.list e) ≤ 9)) then (rightOs (Edit.list y_1) (Edit.ops y_1) ((d : Int) - 1) && decide (lenA (Edit.ops y_1) 0 < 1048576 ∧ lenB (Edit.ops y_1) 0 < 1048576)) else false)))], [], []⟩ : LSt U))) ∧ ((((Edit.kind e) : Int) == 3) = false → Q .ret (⟨[(4, .c (.bool false))], [], []⟩ : LSt U)))))))) :
    W78 N e d Q := by
  have e_ : (W78 N e d Q) = (let y_1 := (reEdit e); let y_2 := (reTree (Edit.new e)); let y_3 := (reTree (Edit.old e)); let zz1 := (decide (Tree.kind y_3 ≠ 10) && rightT y_3 64); let zz0 := (decide (2 ≤ (Edit.list e) ∧ (Edit.list e) ≤ 9)); ((pre121 (y_1, ())) ∧ (TrZKG20z ((!(!(bareE y_1))) = true)) ∧ (((!(bareE y_1)) = false → (!(!(bareE y_1))) = true)) ∧ (((bif (!(bareE y_1)) then true else ((d : Int) == 0)) = true → (Q .ret (⟨[(4, .c (.bool false))], [], []⟩ : LSt U))) ∧ ((bif (!(bareE y_1)) then true else ((d : Int) == 0)) = false → (((((Edit.kind e) == 0) = true → (Q .ret (⟨[(4, .c (.bool true))], [], []⟩ : LSt U))) ∧ (((Edit.kind e) == 0) = false → ((((Edit.kind e) == 1) = true → (pre122 (y_3, ())) ∧ (TrZKG20z ((zz1) = true)) ∧ (TrZKG20z ((zz1) = true)) ∧ ((zz1) = true → pre122 (y_2, ())) ∧ ((TrZKG20z ((zz1) = true))) ∧ (Q .ret (⟨[(4, .c (.bool (bif zz1 then (decide (Tree.kind y_2 ≠ 10) && rightT y_2 64) else false)))], [], []⟩ : LSt U))) ∧ (((Edit.kind e) == 1) = false → ((((Edit.kind e) == 2) = true → (pre123 ((Edit.words e), ())) ∧ (TrZKG20z ((wordsOk (-1) (Edit.words e)) = true)) ∧ (TrZKG20z ((wordsOk (-1) (Edit.words e)) = true)) ∧ ((wordsOk (-1) (Edit.words e)) = true → InR ((d : Int) - 1)) ∧ (TrZKG20z ((wordsOk (-1) (Edit.words e)) = true)) ∧ (TrZKG20z ((wordsOk (-1) (Edit.words e)) = true)) ∧ ((wordsOk (-1) (Edit.words e)) = true → pre124 ((Edit.kids e), ((d : Int) - 1), ())) ∧ ((wordsOk (-1) (Edit.words e)) = true → mu124 ((Edit.kids e), ((d : Int) - 1), ()) < N) ∧ ((TrZKG20z ((wordsOk (-1) (Edit.words e)) = true))) ∧ (Q .ret (⟨[(4, .c (.bool (bif (wordsOk (-1) (Edit.words e)) then (rightKs (-1) (Edit.kids e) ((d : Int) - 1)) else false)))], [], []⟩ : LSt U))) ∧ (((Edit.kind e) == 2) = false → ((((Edit.kind e) == 3) = true → (pre125 ((Edit.list e), ())) ∧ (TrZKG20z (zz0 = true)) ∧ (zz0 = true → InR ((d : Int) - 1)) ∧ (TrZKG20z (zz0 = true)) ∧ (TrZKG20z (zz0 = true)) ∧ (zz0 = true → pre126 (y_1, ((d : Int) - 1), ())) ∧ (zz0 = true → mu126 (y_1, ((d : Int) - 1), ()) < N) ∧ ((TrZKG20z (zz0 = true))) ∧ (Q .ret (⟨[(4, .c (.bool (bif zz0 then (rightOs (Edit.list y_1) (Edit.ops y_1) ((d : Int) - 1) && decide (lenA (Edit.ops y_1) 0 < 1048576 ∧ lenB (Edit.ops y_1) 0 < 1048576)) else false)))], [], []⟩ : LSt U))) ∧ (((Edit.kind e) == 3) = false → (Q .ret (⟨[(4, .c (.bool false))], [], []⟩ : LSt U))))))))))))))) := by kernel_rfl
  exact e_.mpr (by intro y_1 y_2 y_3; have hh := h y_1 (reEdit_eq _) y_2 (reTree_eq _) y_3 (reTree_eq _); exact ⟨hh.1, id, (by generalize (bareE y_1) = b0; revert b0; decide), ⟨fun c_1 => (hh.2.1 c_1), fun c_1 => ⟨fun c_2 => ((hh.2.2 c_1).1 c_2), fun c_2 => ⟨fun c_3 => ⟨(((hh.2.2 c_1).2 c_2).1 c_3).1, id, id, (((hh.2.2 c_1).2 c_2).1 c_3).2.1, (by generalize (decide (Tree.kind y_3 ≠ 10)) = b0; generalize (rightT y_3 64) = b1; revert b0 b1; decide), (((hh.2.2 c_1).2 c_2).1 c_3).2.2⟩, fun c_3 => ⟨fun c_4 => ⟨((((hh.2.2 c_1).2 c_2).2 c_3).1 c_4).1, id, id, ((((hh.2.2 c_1).2 c_2).2 c_3).1 c_4).2.1, id, id, ((((hh.2.2 c_1).2 c_2).2 c_3).1 c_4).2.2.1, ((((hh.2.2 c_1).2 c_2).2 c_3).1 c_4).2.2.2.1, (by generalize (wordsOk (-1) (Edit.words e)) = b0; revert b0; decide), ((((hh.2.2 c_1).2 c_2).2 c_3).1 c_4).2.2.2.2⟩, fun c_4 => ⟨fun c_5 => ⟨(((((hh.2.2 c_1).2 c_2).2 c_3).2 c_4).1 c_5).1, id, (((((hh.2.2 c_1).2 c_2).2 c_3).2 c_4).1 c_5).2.1, id, id, (((((hh.2.2 c_1).2 c_2).2 c_3).2 c_4).1 c_5).2.2.1, (((((hh.2.2 c_1).2 c_2).2 c_3).2 c_4).1 c_5).2.2.2.1, (by generalize (decide (2 ≤ (Edit.list e) ∧ (Edit.list e) ≤ 9)) = b0; revert b0; decide), (((((hh.2.2 c_1).2 c_2).2 c_3).2 c_4).1 c_5).2.2.2.2⟩, fun c_5 => (((((hh.2.2 c_1).2 c_2).2 c_3).2 c_4).2 c_5)⟩⟩⟩⟩⟩⟩)
def Body78 (N : Nat) (e : Edit) (d : Int)  : Prop := awp cfg (know (know78 N)) (drawOk cfg (know (know78 N))) Tryz.f78.ntmps lv78 (cd Tryz.f78 []) (entry (args78.can (e, d, ())) []) (EndsQ cfg Tryz.f78.ntmps Tryz.f78.results.toList (res78 (e, d, ())) [])
abbrev HB78 : Prop := ∀ (N : Nat) (e : Edit) (d : Int) (_ : Unit), pre78 (e, d, ()) → mu78 (e, d, ()) < N + 1 → Body78 N e d
noncomputable def know124 (N : Nat) : List (FuncId × Fs U) := (78, fs args78 (fun a => [pre78 a, mu78 a < N]) res78) :: (124, fs args124 (fun a => [pre124 a, mu124 a < N]) res124) :: (126, fs args126 (fun a => [pre126 a, mu126 a < N]) res126) :: (179, fs args179 (fun a => [pre179 a, mu179 a < N]) res179) :: [(121, spec121), (122, spec122), (123, spec123), (125, spec125), (216, spec216), (219, spec219), (169, spec169)]
def lv124 : Lives U := fun i => match i with
  | 0 => ([(0, []), (1, [])], [])
  | 1 => ([(0, []), (1, []), (7, []), (8, []), (9, [])], [])
  | 2 => ([(0, []), (1, []), (7, []), (8, []), (9, []), (10, [])], [])
  | 3 => ([(0, []), (1, []), (5, []), (6, []), (7, []), (8, []), (9, [])], [((.loc 6), [])])
  | 4 => ([(0, []), (1, []), (7, []), (8, []), (9, []), (49, [])], [])
  | 5 => ([(4, [])], [])
  | 6 => ([(0, []), (1, []), (7, []), (8, []), (9, [])], [])
  | 7 => ([(4, [])], [])
  | _ => ([], [])
def head124_0 (l : List Kid) (d : Int) (x9 : Int) : LSt U := (⟨[(0, .c (.slice (U := U) .kid l .unk)), (1, .c (.int .i64 d)), (7, .c (.slice (U := U) .kid l .unk)), (8, .c (.int .i64 (l.length : Int))), (9, .c (.int .i64 x9))], [], []⟩ : LSt U)
abbrev W124 (N : Nat) (l : List Kid) (d : Int) (Q : AExit → LSt U → Prop) := awp cfg (know (know124 N)) (drawOk cfg (know (know124 N))) Tryz.f124.ntmps lv124 (cd Tryz.f124 []) (⟨[(0, .c (.slice (U := U) .kid l .unk)), (1, .c (.int .i64 d))], [], []⟩ : LSt U) Q
abbrev a124_ZKG20z (N : Nat) := awp cfg (know (know124 N)) (drawOk cfg (know (know124 N))) Tryz.f124.ntmps lv124
abbrev s124_ZKG20z (N : Nat) := seqK cfg (know (know124 N)) (drawOk cfg (know (know124 N))) Tryz.f124.ntmps lv124
theorem vc124 (N : Nat) (l : List Kid) (d : Int) (Q : AExit → LSt U → Prop) (h : LoopWp (awp cfg (know (know124 N)) (drawOk cfg (know (know124 N))) Tryz.f124.ntmps lv124 (cd Tryz.f124 [1, 0, 1, 0, 0])) (head124_0 l d 0) (AExit.inBlock 0 (seqK cfg (know (know124 N)) (drawOk cfg (know (know124 N))) Tryz.f124.ntmps lv124 (cd Tryz.f124 [1, 1]) Q))) :
    W124 N l d Q := by
  have e_ : (W124 N l d Q) = (((LoopWp (a124_ZKG20z N (cd Tryz.f124 [1, 0, 1, 0, 0])) (head124_0 l d 0) (AExit.inBlock 0 (s124_ZKG20z N (cd Tryz.f124 [1, 1]) Q))))) := by kernel_rfl
  exact e_.mpr h
abbrev W124_l0 (N : Nat) (l : List Kid) (d : Int) (x9 : Int) (N0 : LSt U → Prop) (Q : AExit → LSt U → Prop) := awp cfg (know (know124 N)) (drawOk cfg (know (know124 N))) Tryz.f124.ntmps lv124 (cd Tryz.f124 [1, 0, 1, 0, 0]) (head124_0 l d x9) (AExit.then N0 (AExit.inBlock 0 (seqK cfg (know (know124 N)) (drawOk cfg (know (know124 N))) Tryz.f124.ntmps lv124 (cd Tryz.f124 [1, 1]) Q)))
theorem vc124_l0 (N : Nat) (l : List Kid) (d : Int) (x9 : Int) (N0 : LSt U → Prop) (Q : AExit → LSt U → Prop) (h : ∀ y_1, y_1 = (List.getD l (Int.toNat x9) (KidOf.mk 0 Edit.nil)) → ∀ y_2, y_2 = (List.getD l (Int.toNat ((x9 : Int) - 1)) (KidOf.mk 0 Edit.nil)) → ∀ y_3, y_3 = ((KidOf.e y_1)) → ((decide ((x9 : Int) < (l.length : Int))) = true → ((0 : Int) ≤ x9 ∧ x9 < (l.length : Int)) ∧ ((((!(bif (decide (((KidOf.at_ y_1) : Int) < 0)) then true else (decide ((65535 : Int) ≤ (KidOf.at_ y_1))))) && (decide ((0 : Int) < x9))) = true → InR ((x9 : Int) - 1)) ∧ (((!(bif (decide (((KidOf.at_ y_1) : Int) < 0)) then true else (decide ((65535 : Int) ≤ (KidOf.at_ y_1))))) && (decide ((0 : Int) < x9))) = true → (0 : Int) ≤ ((x9 : Int) - 1) ∧ ((x9 : Int) - 1) < (l.length : Int)) ∧ ((!(bif (bif (bif (decide (((KidOf.at_ y_1) : Int) < 0)) then true else (decide ((65535 : Int) ≤ (KidOf.at_ y_1)))) then true else (bif (decide ((0 : Int) < x9)) then (decide (((KidOf.at_ y_1) : Int) ≤ (KidOf.at_ y_2))) else false)) then true else (((Edit.kind (KidOf.e y_1)) : Int) == 0))) = true → pre78 (y_3, d, ())) ∧ ((!(bif (bif (bif (decide (((KidOf.at_ y_1) : Int) < 0)) then true else (decide ((65535 : Int) ≤ (KidOf.at_ y_1)))) then true else (bif (decide ((0 : Int) < x9)) then (decide (((KidOf.at_ y_1) : Int) ≤ (KidOf.at_ y_2))) else false)) then true else (((Edit.kind (KidOf.e y_1)) : Int) == 0))) = true → mu78 (y_3, d, ()) < N) ∧ (((bif (bif (bif (bif (decide (((KidOf.at_ y_1) : Int) < 0)) then true else (decide ((65535 : Int) ≤ (KidOf.at_ y_1)))) then true else (bif (decide ((0 : Int) < x9)) then (decide (((KidOf.at_ y_1) : Int) ≤ (KidOf.at_ y_2))) else false)) then true else (((Edit.kind (KidOf.e y_1)) : Int) == 0)) then true else (!(rightE y_3 d))) = true → Q .ret (⟨[(4, .c (.bool false))], [], []⟩ : LSt U)) ∧ ((bif (bif (bif (bif (decide (((KidOf.at_ y_1) : Int) < 0)) then true else (decide ((65535 : Int) ≤ (KidOf.at_ y_1)))) then true else (bif (decide ((0 : Int) < x9)) then (decide (((KidOf.at_ y_1) : Int) ≤ (KidOf.at_ y_2))) else false)) then true else (((Edit.kind (KidOf.e y_1)) : Int) == 0)) then true else (!(rightE y_3 d))) = false → (InR ((x9 : Int) + 1)) ∧ (N0 (head124_0 l d ((x9 : Int) + 1))))))) ∧ ((decide ((x9 : Int) < (l.length : Int))) = false → Q .ret (⟨[(4, .c (.bool true))], [], []⟩ : LSt U))) :
    W124_l0 N l d x9 N0 Q := by
  have e_ : (W124_l0 N l d x9 N0 Q) = (let y_1 := (List.getD l (Int.toNat x9) (KidOf.mk 0 Edit.nil)); let y_2 := (List.getD l (Int.toNat ((x9 : Int) - 1)) (KidOf.mk 0 Edit.nil)); let y_3 := (reEdit (KidOf.e y_1)); let zz4 := (decide ((KidOf.at_ y_1) < 0)); let zz3 := (decide ((0 : Int) < x9)); let zz2 := (((Edit.kind (KidOf.e y_1)) : Int) == 0); let zz1 := (bif zz3 then (decide ((KidOf.at_ y_1) ≤ (KidOf.at_ y_2))) else false); let zz0 := (bif zz4 then true else (decide ((65535 : Int) ≤ (KidOf.at_ y_1)))); (((decide ((x9 : Int) < (l.length : Int))) = true → ((0 : Int) ≤ x9 ∧ x9 < (l.length : Int)) ∧ ((TrZKG20z ((!zz4) = true)) ∧ (TrZKG20z ((!zz4) = true)) ∧ ((zz4 = false → (!zz4) = true)) ∧ (TrZKG20z ((!zz0) = true)) ∧ (TrZKG20z ((!zz0) = true)) ∧ (TrZKG20z (((!zz0) && zz3) = true)) ∧ (((!zz0) && zz3) = true → InR ((x9 : Int) - 1)) ∧ (TrZKG20z (((!zz0) && zz3) = true)) ∧ (TrZKG20z (((!zz0) && zz3) = true)) ∧ (((!zz0) && zz3) = true → (0 : Int) ≤ ((x9 : Int) - 1) ∧ ((x9 : Int) - 1) < (l.length : Int)) ∧ (TrZKG20z (((!zz0) && zz3) = true)) ∧ (TrZKG20z (((!zz0) && zz3) = true)) ∧ (TrZKG20z (((!zz0) && zz3) = true)) ∧ (TrZKG20z (((!zz0) && zz3) = true)) ∧ (TrZKG20z (((!zz0) && zz3) = true)) ∧ ((!zz0) = true → (True → (!zz0) = true)) ∧ ((!zz0) = true → (zz3 = true → ((!zz0) && zz3) = true)) ∧ ((zz0 = false → (!zz0) = true)) ∧ (TrZKG20z ((!(bif zz0 then true else zz1)) = true)) ∧ (TrZKG20z ((!(bif zz0 then true else zz1)) = true)) ∧ (TrZKG20z ((!(bif zz0 then true else zz1)) = true)) ∧ (((bif zz0 then true else zz1) = false → (!(bif zz0 then true else zz1)) = true)) ∧ (TrZKG20z ((!(bif (bif zz0 then true else zz1) then true else zz2)) = true)) ∧ (TrZKG20z ((!(bif (bif zz0 then true else zz1) then true else zz2)) = true)) ∧ (TrZKG20z ((!(bif (bif zz0 then true else zz1) then true else zz2)) = true)) ∧ ((!(bif (bif zz0 then true else zz1) then true else zz2)) = true → pre78 (y_3, d, ())) ∧ ((!(bif (bif zz0 then true else zz1) then true else zz2)) = true → mu78 (y_3, d, ()) < N) ∧ (TrZKG20z ((!(bif (bif zz0 then true else zz1) then true else zz2)) = true)) ∧ (((bif (bif zz0 then true else zz1) then true else zz2) = false → (!(bif (bif zz0 then true else zz1) then true else zz2)) = true)) ∧ (((bif (bif (bif zz0 then true else zz1) then true else zz2) then true else (!(rightE y_3 d))) = true → (Q .ret (⟨[(4, .c (.bool false))], [], []⟩ : LSt U))) ∧ ((bif (bif (bif zz0 then true else zz1) then true else zz2) then true else (!(rightE y_3 d))) = false → (InR ((x9 : Int) + 1)) ∧ (N0 (head124_0 l d ((x9 : Int) + 1))))))) ∧ ((decide ((x9 : Int) < (l.length : Int))) = false → (Q .ret (⟨[(4, .c (.bool true))], [], []⟩ : LSt U))))) := by kernel_rfl
  exact e_.mpr (by intro y_1 y_2 y_3; have hh := h y_1 rfl y_2 rfl y_3 (reEdit_eq _); exact ⟨fun c_6 => ⟨(hh.1 c_6).1, ⟨id, id, (by generalize (decide (((KidOf.at_ y_1) : Int) < 0)) = b0; revert b0; decide), id, id, id, (hh.1 c_6).2.1, id, id, (hh.1 c_6).2.2.1, id, id, id, id, id, (by generalize (decide ((65535 : Int) ≤ (KidOf.at_ y_1))) = b0; generalize (decide (((KidOf.at_ y_1) : Int) < 0)) = b1; revert b0 b1; decide), (by generalize (decide ((65535 : Int) ≤ (KidOf.at_ y_1))) = b0; generalize (decide (((KidOf.at_ y_1) : Int) < 0)) = b1; generalize (decide ((0 : Int) < x9)) = b2; revert b0 b1 b2; decide), (by generalize (decide ((65535 : Int) ≤ (KidOf.at_ y_1))) = b0; generalize (decide (((KidOf.at_ y_1) : Int) < 0)) = b1; revert b0 b1; decide), id, id, id, (by generalize (decide (((KidOf.at_ y_1) : Int) ≤ (KidOf.at_ y_2))) = b0; generalize (decide ((65535 : Int) ≤ (KidOf.at_ y_1))) = b1; generalize (decide (((KidOf.at_ y_1) : Int) < 0)) = b2; generalize (decide ((0 : Int) < x9)) = b3; revert b0 b1 b2 b3; decide), id, id, id, (hh.1 c_6).2.2.2.1, (hh.1 c_6).2.2.2.2.1, id, (by generalize (decide (((KidOf.at_ y_1) : Int) ≤ (KidOf.at_ y_2))) = b0; generalize (decide ((65535 : Int) ≤ (KidOf.at_ y_1))) = b1; generalize (((Edit.kind (KidOf.e y_1)) : Int) == 0) = b2; generalize (decide (((KidOf.at_ y_1) : Int) < 0)) = b3; generalize (decide ((0 : Int) < x9)) = b4; revert b0 b1 b2 b3 b4; decide), ⟨fun c_7 => ((hh.1 c_6).2.2.2.2.2.1 c_7), fun c_7 => ⟨((hh.1 c_6).2.2.2.2.2.2 c_7).1, ((hh.1 c_6).2.2.2.2.2.2 c_7).2⟩⟩⟩⟩, fun c_6 => (hh.2 c_6)⟩)
def Body124 (N : Nat) (l : List Kid) (d : Int)  : Prop := awp cfg (know (know124 N)) (drawOk cfg (know (know124 N))) Tryz.f124.ntmps lv124 (cd Tryz.f124 []) (entry (args124.can (l, d, ())) []) (EndsQ cfg Tryz.f124.ntmps Tryz.f124.results.toList (res124 (l, d, ())) [])
abbrev HB124 : Prop := ∀ (N : Nat) (l : List Kid) (d : Int) (_ : Unit), pre124 (l, d, ()) → mu124 (l, d, ()) < N + 1 → Body124 N l d
noncomputable def know126 (N : Nat) : List (FuncId × Fs U) := (78, fs args78 (fun a => [pre78 a, mu78 a < N]) res78) :: (124, fs args124 (fun a => [pre124 a, mu124 a < N]) res124) :: (126, fs args126 (fun a => [pre126 a, mu126 a < N]) res126) :: (179, fs args179 (fun a => [pre179 a, mu179 a < N]) res179) :: [(121, spec121), (122, spec122), (123, spec123), (125, spec125), (216, spec216), (219, spec219), (169, spec169)]
def lv126 : Lives U := fun i => match i with
  | 0 => ([(1, []), (2, [])], [((.loc 2), [])])
  | 1 => ([(1, []), (2, []), (10, []), (11, []), (12, [])], [((.loc 2), [])])
  | 2 => ([(1, []), (2, []), (10, []), (11, []), (12, []), (13, [])], [((.loc 2), [])])
  | 3 => ([(1, []), (2, []), (6, []), (10, []), (11, []), (12, [])], [((.loc 2), []), ((.loc 6), [])])
  | 4 => ([(1, []), (2, []), (10, []), (11, []), (12, []), (21, [])], [((.loc 2), [])])
  | 5 => ([(4, [])], [])
  | 6 => ([(1, []), (2, []), (10, []), (11, []), (12, [])], [((.loc 2), [])])
  | 7 => ([(7, []), (8, [])], [])
  | 8 => ([(4, [])], [])
  | _ => ([], [])
def head126_0 (e : Edit) (d : Int) (x12 : Int) : LSt U := (⟨[(1, .c (.int .i64 d)), (2, .ptr (.loc 2) 0), (10, .c (.slice (U := U) .op (Edit.ops e) .unk)), (11, .c (.int .i64 ((Edit.ops e).length : Int))), (12, .c (.int .i64 x12))], [((.loc 2), [.int .i64 (Edit.kind e), .int .i64 (Tree.kind (Edit.old e)), .slice (U := U) .u64 (Tree.words (Edit.old e)) .unk, .slice (U := U) .tree (Tree.kids (Edit.old e)) .unk, .int .i64 (Tree.kind (Edit.new e)), .slice (U := U) .u64 (Tree.words (Edit.new e)) .unk, .slice (U := U) .tree (Tree.kids (Edit.new e)) .unk, .slice (U := U) .wedit (Edit.words e) .unk, .slice (U := U) .kid (Edit.kids e) .unk, .int .i64 (Edit.list e), .slice (U := U) .op (Edit.ops e) .unk])], []⟩ : LSt U)
abbrev W126 (N : Nat) (e : Edit) (d : Int) (Q : AExit → LSt U → Prop) := awp cfg (know (know126 N)) (drawOk cfg (know (know126 N))) Tryz.f126.ntmps lv126 (cd Tryz.f126 []) (⟨[(0, .agg [.int .i64 (Edit.kind e), .int .i64 (Tree.kind (Edit.old e)), .slice (U := U) .u64 (Tree.words (Edit.old e)) .unk, .slice (U := U) .tree (Tree.kids (Edit.old e)) .unk, .int .i64 (Tree.kind (Edit.new e)), .slice (U := U) .u64 (Tree.words (Edit.new e)) .unk, .slice (U := U) .tree (Tree.kids (Edit.new e)) .unk, .slice (U := U) .wedit (Edit.words e) .unk, .slice (U := U) .kid (Edit.kids e) .unk, .int .i64 (Edit.list e), .slice (U := U) .op (Edit.ops e) .unk]), (1, .c (.int .i64 d))], [], []⟩ : LSt U) Q
abbrev a126_ZKG20z (N : Nat) := awp cfg (know (know126 N)) (drawOk cfg (know (know126 N))) Tryz.f126.ntmps lv126
abbrev s126_ZKG20z (N : Nat) := seqK cfg (know (know126 N)) (drawOk cfg (know (know126 N))) Tryz.f126.ntmps lv126
theorem vc126 (N : Nat) (e : Edit) (d : Int) (Q : AExit → LSt U → Prop) (h : LoopWp (awp cfg (know (know126 N)) (drawOk cfg (know (know126 N))) Tryz.f126.ntmps lv126 (cd Tryz.f126 [1, 0, 1, 0, 0])) (head126_0 e d 0) (AExit.inBlock 0 (seqK cfg (know (know126 N)) (drawOk cfg (know (know126 N))) Tryz.f126.ntmps lv126 (cd Tryz.f126 [1, 1]) Q))) :
    W126 N e d Q := by
  have e_ : (W126 N e d Q) = (((LoopWp (a126_ZKG20z N (cd Tryz.f126 [1, 0, 1, 0, 0])) (head126_0 e d 0) (AExit.inBlock 0 (s126_ZKG20z N (cd Tryz.f126 [1, 1]) Q))))) := by kernel_rfl
  exact e_.mpr h
abbrev W126_l0 (N : Nat) (e : Edit) (d : Int) (x12 : Int) (N0 : LSt U → Prop) (Q : AExit → LSt U → Prop) := awp cfg (know (know126 N)) (drawOk cfg (know (know126 N))) Tryz.f126.ntmps lv126 (cd Tryz.f126 [1, 0, 1, 0, 0]) (head126_0 e d x12) (AExit.then N0 (AExit.inBlock 0 (seqK cfg (know (know126 N)) (drawOk cfg (know (know126 N))) Tryz.f126.ntmps lv126 (cd Tryz.f126 [1, 1]) Q)))
theorem vc126_l0 (N : Nat) (e : Edit) (d : Int) (x12 : Int) (N0 : LSt U → Prop) (Q : AExit → LSt U → Prop) (h : ∀ y_1, y_1 = (e) → ∀ y_2, y_2 = (List.getD (Edit.ops e) (Int.toNat x12) Op.nil) → ∀ y_3, y_3 = (y_2) → ((decide ((x12 : Int) < ((Edit.ops e).length : Int))) = true → ((0 : Int) ≤ x12 ∧ x12 < ((Edit.ops e).length : Int)) ∧ ((pre179 ((Edit.list e), y_3, d, ())) ∧ (mu179 ((Edit.list e), y_3, d, ()) < N) ∧ (((!(rightOp (Edit.list e) y_3 d)) = true → Q .ret (⟨[(4, .c (.bool false))], [], []⟩ : LSt U)) ∧ ((!(rightOp (Edit.list e) y_3 d)) = false → (InR ((x12 : Int) + 1)) ∧ (N0 (head126_0 e d ((x12 : Int) + 1))))))) ∧ ((decide ((x12 : Int) < ((Edit.ops e).length : Int))) = false → (pre169 (y_1, ())) ∧ (Q .ret (⟨[(4, .c (.bool (bif (decide (((lenAW (Edit.ops y_1) 0) : Int) < 1048576)) then (decide (((lenBW (Edit.ops y_1) 0) : Int) < 1048576)) else false)))], [], []⟩ : LSt U)))) :
    W126_l0 N e d x12 N0 Q := by
  have e_ : (W126_l0 N e d x12 N0 Q) = (let y_1 := (reEdit e); let y_2 := (List.getD (Edit.ops e) (Int.toNat x12) Op.nil); let y_3 := (reOp y_2); let zz0 := (decide (((lenAW (Edit.ops y_1) 0) : Int) < 1048576)); (((decide ((x12 : Int) < ((Edit.ops e).length : Int))) = true → ((0 : Int) ≤ x12 ∧ x12 < ((Edit.ops e).length : Int)) ∧ ((pre179 ((Edit.list e), y_3, d, ())) ∧ (mu179 ((Edit.list e), y_3, d, ()) < N) ∧ (((!(rightOp (Edit.list e) y_3 d)) = true → (Q .ret (⟨[(4, .c (.bool false))], [], []⟩ : LSt U))) ∧ ((!(rightOp (Edit.list e) y_3 d)) = false → (InR ((x12 : Int) + 1)) ∧ (N0 (head126_0 e d ((x12 : Int) + 1))))))) ∧ ((decide ((x12 : Int) < ((Edit.ops e).length : Int))) = false → (pre169 (y_1, ())) ∧ ((TrZKG20z (zz0 = true)) ∧ ((TrZKG20z (zz0 = true))) ∧ (Q .ret (⟨[(4, .c (.bool (bif zz0 then (decide (((lenBW (Edit.ops y_1) 0) : Int) < 1048576)) else false)))], [], []⟩ : LSt U)))))) := by kernel_rfl
  exact e_.mpr (by intro y_1 y_2 y_3; have hh := h y_1 (reEdit_eq _) y_2 rfl y_3 (reOp_eq _); exact ⟨fun c_8 => ⟨(hh.1 c_8).1, ⟨(hh.1 c_8).2.1, (hh.1 c_8).2.2.1, ⟨fun c_9 => ((hh.1 c_8).2.2.2.1 c_9), fun c_9 => ⟨((hh.1 c_8).2.2.2.2 c_9).1, ((hh.1 c_8).2.2.2.2 c_9).2⟩⟩⟩⟩, fun c_8 => ⟨(hh.2 c_8).1, ⟨id, (by generalize (decide (((lenAW (Edit.ops y_1) 0) : Int) < 1048576)) = b0; revert b0; decide), (hh.2 c_8).2⟩⟩⟩)
def Body126 (N : Nat) (e : Edit) (d : Int)  : Prop := awp cfg (know (know126 N)) (drawOk cfg (know (know126 N))) Tryz.f126.ntmps lv126 (cd Tryz.f126 []) (entry (args126.can (e, d, ())) []) (EndsQ cfg Tryz.f126.ntmps Tryz.f126.results.toList (res126 (e, d, ())) [])
abbrev HB126 : Prop := ∀ (N : Nat) (e : Edit) (d : Int) (_ : Unit), pre126 (e, d, ()) → mu126 (e, d, ()) < N + 1 → Body126 N e d
noncomputable def know179 (N : Nat) : List (FuncId × Fs U) := (78, fs args78 (fun a => [pre78 a, mu78 a < N]) res78) :: (124, fs args124 (fun a => [pre124 a, mu124 a < N]) res124) :: (126, fs args126 (fun a => [pre126 a, mu126 a < N]) res126) :: (179, fs args179 (fun a => [pre179 a, mu179 a < N]) res179) :: [(121, spec121), (122, spec122), (123, spec123), (125, spec125), (216, spec216), (219, spec219), (169, spec169)]
def lv179 : Lives U := fun i => match i with
  | 0 => ([(2, []), (3, []), (4, [])], [((.loc 3), []), ((.loc 4), [])])
  | 1 => ([(2, []), (3, []), (4, []), (8, [])], [((.loc 3), []), ((.loc 4), [])])
  | 2 => ([(2, []), (3, []), (4, []), (8, []), (9, [])], [((.loc 3), []), ((.loc 4), [])])
  | 3 => ([(2, []), (3, []), (4, []), (8, []), (11, [])], [((.loc 3), []), ((.loc 4), [])])
  | 4 => ([(2, []), (3, []), (4, []), (8, []), (13, [])], [((.loc 3), []), ((.loc 4), [])])
  | 5 => ([(2, []), (3, []), (4, []), (15, [])], [((.loc 3), []), ((.loc 4), [])])
  | 6 => ([(6, [])], [])
  | 7 => ([(6, [])], [])
  | 8 => ([(6, [])], [])
  | 9 => ([(6, [])], [])
  | _ => ([], [])
abbrev W179 (N : Nat) (list : Int) (o : Op) (d : Int) (Q : AExit → LSt U → Prop) := awp cfg (know (know179 N)) (drawOk cfg (know (know179 N))) Tryz.f179.ntmps lv179 (cd Tryz.f179 []) (⟨[(0, .c (.int .i64 list)), (1, .agg [.int .i64 (OpOf.kind o), .int .i64 (OpOf.n o), .slice (U := U) .tree (OpOf.l o) .unk, .int .i64 (Edit.kind (OpOf.e o)), .int .i64 (Tree.kind (Edit.old (OpOf.e o))), .slice (U := U) .u64 (Tree.words (Edit.old (OpOf.e o))) .unk, .slice (U := U) .tree (Tree.kids (Edit.old (OpOf.e o))) .unk, .int .i64 (Tree.kind (Edit.new (OpOf.e o))), .slice (U := U) .u64 (Tree.words (Edit.new (OpOf.e o))) .unk, .slice (U := U) .tree (Tree.kids (Edit.new (OpOf.e o))) .unk, .slice (U := U) .wedit (Edit.words (OpOf.e o)) .unk, .slice (U := U) .kid (Edit.kids (OpOf.e o)) .unk, .int .i64 (Edit.list (OpOf.e o)), .slice (U := U) .op (Edit.ops (OpOf.e o)) .unk]), (2, .c (.int .i64 d))], [], []⟩ : LSt U) Q
theorem vc179 (N : Nat) (list : Int) (o : Op) (d : Int) (Q : AExit → LSt U → Prop) (h : ∀ y_1, y_1 = ((OpOf.e o)) → ∀ y_2, y_2 = (.bool (bif (bif (bif (bif (((OpOf.n o) : Int) == 0) then (decide ((0 : Int) < ((OpOf.l o).length : Int))) else false) then (rightE y_1 1) else false) then (((Edit.kind (OpOf.e o)) : Int) == 0) else false) then (!(!(treesOk list (OpOf.l o)))) else false)) → ((((OpOf.kind o) : Int) == 0) = true → ((bif (bif (decide ((1 : Int) ≤ (OpOf.n o))) then (decide (((OpOf.n o) : Int) ≤ 1048576)) else false) then ((((OpOf.l o).length : Int) : Int) == 0) else false) = true → pre78 (y_1, 1, ())) ∧ ((bif (bif (decide ((1 : Int) ≤ (OpOf.n o))) then (decide (((OpOf.n o) : Int) ≤ 1048576)) else false) then ((((OpOf.l o).length : Int) : Int) == 0) else false) = true → mu78 (y_1, 1, ()) < N) ∧ (Q .ret (⟨[(6, .c (.bool (bif (bif (bif (bif (decide ((1 : Int) ≤ (OpOf.n o))) then (decide (((OpOf.n o) : Int) ≤ 1048576)) else false) then ((((OpOf.l o).length : Int) : Int) == 0) else false) then (rightE y_1 1) else false) then (((Edit.kind (OpOf.e o)) : Int) == 0) else false)))], [], []⟩ : LSt U))) ∧ ((((OpOf.kind o) : Int) == 0) = false → ((((OpOf.kind o) : Int) == 1) = true → ((bif (((OpOf.n o) : Int) == 0) then (decide ((0 : Int) < ((OpOf.l o).length : Int))) else false) = true → pre78 (y_1, 1, ())) ∧ ((bif (((OpOf.n o) : Int) == 0) then (decide ((0 : Int) < ((OpOf.l o).length : Int))) else false) = true → mu78 (y_1, 1, ()) < N) ∧ ((bif (bif (bif (((OpOf.n o) : Int) == 0) then (decide ((0 : Int) < ((OpOf.l o).length : Int))) else false) then (rightE y_1 1) else false) then (((Edit.kind (OpOf.e o)) : Int) == 0) else false) = true → pre216 ((OpOf.l o), (list, ()), ())) ∧ (Q .ret (⟨[(6, .c y_2)], [], []⟩ : LSt U))) ∧ ((((OpOf.kind o) : Int) == 1) = false → ((((OpOf.kind o) : Int) == 2) = true → ((bif (((OpOf.n o) : Int) == 0) then (decide ((0 : Int) < ((OpOf.l o).length : Int))) else false) = true → pre78 (y_1, 1, ())) ∧ ((bif (((OpOf.n o) : Int) == 0) then (decide ((0 : Int) < ((OpOf.l o).length : Int))) else false) = true → mu78 (y_1, 1, ()) < N) ∧ ((bif (bif (bif (((OpOf.n o) : Int) == 0) then (decide ((0 : Int) < ((OpOf.l o).length : Int))) else false) then (rightE y_1 1) else false) then (((Edit.kind (OpOf.e o)) : Int) == 0) else false) = true → pre216 ((OpOf.l o), (list, ()), ())) ∧ (Q .ret (⟨[(6, .c y_2)], [], []⟩ : LSt U))) ∧ ((((OpOf.kind o) : Int) == 2) = false → ((((OpOf.kind o) : Int) == 3) = true → ((bif (((OpOf.n o) : Int) == 0) then ((((OpOf.l o).length : Int) : Int) == 0) else false) = true → pre219 (list, y_1, ())) ∧ ((bif (bif (((OpOf.n o) : Int) == 0) then ((((OpOf.l o).length : Int) : Int) == 0) else false) then (withinB list y_1) else false) = true → pre78 (y_1, d, ())) ∧ ((bif (bif (((OpOf.n o) : Int) == 0) then ((((OpOf.l o).length : Int) : Int) == 0) else false) then (withinB list y_1) else false) = true → mu78 (y_1, d, ()) < N) ∧ (Q .ret (⟨[(6, .c (.bool (bif (bif (bif (((OpOf.n o) : Int) == 0) then ((((OpOf.l o).length : Int) : Int) == 0) else false) then (withinB list y_1) else false) then (rightE y_1 d) else false)))], [], []⟩ : LSt U))) ∧ ((((OpOf.kind o) : Int) == 3) = false → Q .ret (⟨[(6, .c (.bool false))], [], []⟩ : LSt U)))))) :
    W179 N list o d Q := by
  have e_ : (W179 N list o d Q) = (let y_1 := (reEdit (OpOf.e o)); let y_2 := (.bool (bif (bif (bif (bif ((OpOf.n o) == 0) then (decide ((0 : Int) < ((OpOf.l o).length : Int))) else false) then (rightE y_1 1) else false) then (((Edit.kind (OpOf.e o)) : Int) == 0) else false) then (!(!(treesOk list (OpOf.l o)))) else false)); let zz5 := (decide ((1 : Int) ≤ (OpOf.n o))); let zz4 := (bif zz5 then (decide ((OpOf.n o) ≤ 1048576)) else false); let zz3 := (((Edit.kind (OpOf.e o)) : Int) == 0); let zz2 := (bif ((OpOf.n o) == 0) then (((OpOf.l o).length : Int) == 0) else false); let zz1 := (bif zz4 then (((OpOf.l o).length : Int) == 0) else false); let zz0 := (bif ((OpOf.n o) == 0) then (decide ((0 : Int) < ((OpOf.l o).length : Int))) else false); ((((((OpOf.kind o) == 0) = true → (TrZKG20z (zz5 = true)) ∧ (TrZKG20z (zz5 = true)) ∧ ((TrZKG20z (zz5 = true))) ∧ (TrZKG20z (zz4 = true)) ∧ (TrZKG20z (zz4 = true)) ∧ (TrZKG20z (zz4 = true)) ∧ ((TrZKG20z (zz4 = true))) ∧ (TrZKG20z (zz1 = true)) ∧ (TrZKG20z (zz1 = true)) ∧ (zz1 = true → pre78 (y_1, 1, ())) ∧ (zz1 = true → mu78 (y_1, 1, ()) < N) ∧ ((TrZKG20z (zz1 = true))) ∧ (TrZKG20z ((bif zz1 then (rightE y_1 1) else false) = true)) ∧ (TrZKG20z ((bif zz1 then (rightE y_1 1) else false) = true)) ∧ (TrZKG20z ((bif zz1 then (rightE y_1 1) else false) = true)) ∧ ((TrZKG20z ((bif zz1 then (rightE y_1 1) else false) = true))) ∧ (Q .ret (⟨[(6, .c (.bool (bif (bif zz1 then (rightE y_1 1) else false) then zz3 else false)))], [], []⟩ : LSt U))) ∧ (((OpOf.kind o) == 0) = false → ((((OpOf.kind o) == 1) = true → (TrZKG20z (((OpOf.n o) == 0) = true)) ∧ (TrZKG20z (((OpOf.n o) == 0) = true)) ∧ (TrZKG20z (((OpOf.n o) == 0) = true)) ∧ ((TrZKG20z (((OpOf.n o) == 0) = true))) ∧ (TrZKG20z (zz0 = true)) ∧ (TrZKG20z (zz0 = true)) ∧ (zz0 = true → pre78 (y_1, 1, ())) ∧ (zz0 = true → mu78 (y_1, 1, ()) < N) ∧ ((TrZKG20z (zz0 = true))) ∧ (TrZKG20z ((bif zz0 then (rightE y_1 1) else false) = true)) ∧ (TrZKG20z ((bif zz0 then (rightE y_1 1) else false) = true)) ∧ (TrZKG20z ((bif zz0 then (rightE y_1 1) else false) = true)) ∧ ((TrZKG20z ((bif zz0 then (rightE y_1 1) else false) = true))) ∧ (TrZKG20z ((bif (bif zz0 then (rightE y_1 1) else false) then zz3 else false) = true)) ∧ (TrZKG20z ((bif (bif zz0 then (rightE y_1 1) else false) then zz3 else false) = true)) ∧ (TrZKG20z ((bif (bif zz0 then (rightE y_1 1) else false) then zz3 else false) = true)) ∧ ((bif (bif zz0 then (rightE y_1 1) else false) then zz3 else false) = true → pre216 ((OpOf.l o), (list, ()), ())) ∧ (TrZKG20z ((bif (bif zz0 then (rightE y_1 1) else false) then zz3 else false) = true)) ∧ ((TrZKG20z ((bif (bif zz0 then (rightE y_1 1) else false) then zz3 else false) = true))) ∧ (Q .ret (⟨[(6, .c y_2)], [], []⟩ : LSt U))) ∧ (((OpOf.kind o) == 1) = false → ((((OpOf.kind o) == 2) = true → (TrZKG20z (((OpOf.n o) == 0) = true)) ∧ (TrZKG20z (((OpOf.n o) == 0) = true)) ∧ (TrZKG20z (((OpOf.n o) == 0) = true)) ∧ ((TrZKG20z (((OpOf.n o) == 0) = true))) ∧ (TrZKG20z (zz0 = true)) ∧ (TrZKG20z (zz0 = true)) ∧ (zz0 = true → pre78 (y_1, 1, ())) ∧ (zz0 = true → mu78 (y_1, 1, ()) < N) ∧ ((TrZKG20z (zz0 = true))) ∧ (TrZKG20z ((bif zz0 then (rightE y_1 1) else false) = true)) ∧ (TrZKG20z ((bif zz0 then (rightE y_1 1) else false) = true)) ∧ (TrZKG20z ((bif zz0 then (rightE y_1 1) else false) = true)) ∧ ((TrZKG20z ((bif zz0 then (rightE y_1 1) else false) = true))) ∧ (TrZKG20z ((bif (bif zz0 then (rightE y_1 1) else false) then zz3 else false) = true)) ∧ (TrZKG20z ((bif (bif zz0 then (rightE y_1 1) else false) then zz3 else false) = true)) ∧ (TrZKG20z ((bif (bif zz0 then (rightE y_1 1) else false) then zz3 else false) = true)) ∧ ((bif (bif zz0 then (rightE y_1 1) else false) then zz3 else false) = true → pre216 ((OpOf.l o), (list, ()), ())) ∧ (TrZKG20z ((bif (bif zz0 then (rightE y_1 1) else false) then zz3 else false) = true)) ∧ ((TrZKG20z ((bif (bif zz0 then (rightE y_1 1) else false) then zz3 else false) = true))) ∧ (Q .ret (⟨[(6, .c y_2)], [], []⟩ : LSt U))) ∧ (((OpOf.kind o) == 2) = false → ((((OpOf.kind o) == 3) = true → (TrZKG20z (((OpOf.n o) == 0) = true)) ∧ (TrZKG20z (((OpOf.n o) == 0) = true)) ∧ (TrZKG20z (((OpOf.n o) == 0) = true)) ∧ ((TrZKG20z (((OpOf.n o) == 0) = true))) ∧ (TrZKG20z (zz2 = true)) ∧ (TrZKG20z (zz2 = true)) ∧ (TrZKG20z (zz2 = true)) ∧ (zz2 = true → pre219 (list, y_1, ())) ∧ ((TrZKG20z (zz2 = true))) ∧ (TrZKG20z ((bif zz2 then (withinB list y_1) else false) = true)) ∧ (TrZKG20z ((bif zz2 then (withinB list y_1) else false) = true)) ∧ (TrZKG20z ((bif zz2 then (withinB list y_1) else false) = true)) ∧ ((bif zz2 then (withinB list y_1) else false) = true → pre78 (y_1, d, ())) ∧ ((bif zz2 then (withinB list y_1) else false) = true → mu78 (y_1, d, ()) < N) ∧ ((TrZKG20z ((bif zz2 then (withinB list y_1) else false) = true))) ∧ (Q .ret (⟨[(6, .c (.bool (bif (bif zz2 then (withinB list y_1) else false) then (rightE y_1 d) else false)))], [], []⟩ : LSt U))) ∧ (((OpOf.kind o) == 3) = false → (Q .ret (⟨[(6, .c (.bool false))], [], []⟩ : LSt U))))))))))))) := by kernel_rfl
  exact e_.mpr (by intro y_1 y_2; have hh := h y_1 (reEdit_eq _) y_2 rfl; exact ⟨fun c_10 => ⟨id, id, (by generalize (decide ((1 : Int) ≤ (OpOf.n o))) = b0; revert b0; decide), id, id, id, (by generalize (decide (((OpOf.n o) : Int) ≤ 1048576)) = b0; generalize (decide ((1 : Int) ≤ (OpOf.n o))) = b1; revert b0 b1; decide), id, id, (hh.1 c_10).1, (hh.1 c_10).2.1, (by generalize ((((OpOf.l o).length : Int) : Int) == 0) = b0; generalize (decide (((OpOf.n o) : Int) ≤ 1048576)) = b1; generalize (decide ((1 : Int) ≤ (OpOf.n o))) = b2; revert b0 b1 b2; decide), id, id, id, (by generalize (rightE y_1 1) = b0; generalize ((((OpOf.l o).length : Int) : Int) == 0) = b1; generalize (decide (((OpOf.n o) : Int) ≤ 1048576)) = b2; generalize (decide ((1 : Int) ≤ (OpOf.n o))) = b3; revert b0 b1 b2 b3; decide), (hh.1 c_10).2.2⟩, fun c_10 => ⟨fun c_11 => ⟨id, id, id, (by generalize (((OpOf.n o) : Int) == 0) = b0; revert b0; decide), id, id, ((hh.2 c_10).1 c_11).1, ((hh.2 c_10).1 c_11).2.1, (by generalize (decide ((0 : Int) < ((OpOf.l o).length : Int))) = b0; generalize (((OpOf.n o) : Int) == 0) = b1; revert b0 b1; decide), id, id, id, (by generalize (rightE y_1 1) = b0; generalize (decide ((0 : Int) < ((OpOf.l o).length : Int))) = b1; generalize (((OpOf.n o) : Int) == 0) = b2; revert b0 b1 b2; decide), id, id, id, ((hh.2 c_10).1 c_11).2.2.1, id, (by generalize (rightE y_1 1) = b0; generalize (decide ((0 : Int) < ((OpOf.l o).length : Int))) = b1; generalize (((Edit.kind (OpOf.e o)) : Int) == 0) = b2; generalize (((OpOf.n o) : Int) == 0) = b3; revert b0 b1 b2 b3; decide), ((hh.2 c_10).1 c_11).2.2.2⟩, fun c_11 => ⟨fun c_12 => ⟨id, id, id, (by generalize (((OpOf.n o) : Int) == 0) = b0; revert b0; decide), id, id, (((hh.2 c_10).2 c_11).1 c_12).1, (((hh.2 c_10).2 c_11).1 c_12).2.1, (by generalize (decide ((0 : Int) < ((OpOf.l o).length : Int))) = b0; generalize (((OpOf.n o) : Int) == 0) = b1; revert b0 b1; decide), id, id, id, (by generalize (rightE y_1 1) = b0; generalize (decide ((0 : Int) < ((OpOf.l o).length : Int))) = b1; generalize (((OpOf.n o) : Int) == 0) = b2; revert b0 b1 b2; decide), id, id, id, (((hh.2 c_10).2 c_11).1 c_12).2.2.1, id, (by generalize (rightE y_1 1) = b0; generalize (decide ((0 : Int) < ((OpOf.l o).length : Int))) = b1; generalize (((Edit.kind (OpOf.e o)) : Int) == 0) = b2; generalize (((OpOf.n o) : Int) == 0) = b3; revert b0 b1 b2 b3; decide), (((hh.2 c_10).2 c_11).1 c_12).2.2.2⟩, fun c_12 => ⟨fun c_13 => ⟨id, id, id, (by generalize (((OpOf.n o) : Int) == 0) = b0; revert b0; decide), id, id, id, ((((hh.2 c_10).2 c_11).2 c_12).1 c_13).1, (by generalize ((((OpOf.l o).length : Int) : Int) == 0) = b0; generalize (((OpOf.n o) : Int) == 0) = b1; revert b0 b1; decide), id, id, id, ((((hh.2 c_10).2 c_11).2 c_12).1 c_13).2.1, ((((hh.2 c_10).2 c_11).2 c_12).1 c_13).2.2.1, (by generalize (withinB list y_1) = b0; generalize ((((OpOf.l o).length : Int) : Int) == 0) = b1; generalize (((OpOf.n o) : Int) == 0) = b2; revert b0 b1 b2; decide), ((((hh.2 c_10).2 c_11).2 c_12).1 c_13).2.2.2⟩, fun c_13 => ((((hh.2 c_10).2 c_11).2 c_12).2 c_13)⟩⟩⟩⟩)
def Body179 (N : Nat) (list : Int) (o : Op) (d : Int)  : Prop := awp cfg (know (know179 N)) (drawOk cfg (know (know179 N))) Tryz.f179.ntmps lv179 (cd Tryz.f179 []) (entry (args179.can (list, o, d, ())) []) (EndsQ cfg Tryz.f179.ntmps Tryz.f179.results.toList (res179 (list, o, d, ())) [])
abbrev HB179 : Prop := ∀ (N : Nat) (list : Int) (o : Op) (d : Int) (_ : Unit), pre179 (list, o, d, ()) → mu179 (list, o, d, ()) < N + 1 → Body179 N list o d
noncomputable def know28 : List (FuncId × Fs U) := [(78, spec78)]
def lv28 : Lives U := fun i => match i with
  | 0 => ([(1, [])], [((.loc 1), [])])
  | 1 => ([(2, [])], [])
  | _ => ([], [])
abbrev W28 (e : Edit) (Q : AExit → LSt U → Prop) := awp cfg (know know28) (drawOk cfg (know know28)) Tryz.f28.ntmps lv28 (cd Tryz.f28 []) (⟨[(0, .agg [.int .i64 (Edit.kind e), .int .i64 (Tree.kind (Edit.old e)), .slice (U := U) .u64 (Tree.words (Edit.old e)) .unk, .slice (U := U) .tree (Tree.kids (Edit.old e)) .unk, .int .i64 (Tree.kind (Edit.new e)), .slice (U := U) .u64 (Tree.words (Edit.new e)) .unk, .slice (U := U) .tree (Tree.kids (Edit.new e)) .unk, .slice (U := U) .wedit (Edit.words e) .unk, .slice (U := U) .kid (Edit.kids e) .unk, .int .i64 (Edit.list e), .slice (U := U) .op (Edit.ops e) .unk])], [], []⟩ : LSt U) Q
theorem vc28 (e : Edit) (Q : AExit → LSt U → Prop) (h : (pre78 ((Edit.mk (Edit.kind e) (Tree.mk (Tree.kind (Edit.old e)) (Tree.words (Edit.old e)) (Tree.kids (Edit.old e))) (Tree.mk (Tree.kind (Edit.new e)) (Tree.words (Edit.new e)) (Tree.kids (Edit.new e))) (Edit.words e) (Edit.kids e) (Edit.list e) (Edit.ops e)), 64, ())) ∧ (Q .ret (⟨[(2, .c (.bool (rightE (Edit.mk (Edit.kind e) (Tree.mk (Tree.kind (Edit.old e)) (Tree.words (Edit.old e)) (Tree.kids (Edit.old e))) (Tree.mk (Tree.kind (Edit.new e)) (Tree.words (Edit.new e)) (Tree.kids (Edit.new e))) (Edit.words e) (Edit.kids e) (Edit.list e) (Edit.ops e)) 64)))], [], []⟩ : LSt U))) :
    W28 e Q := by
  have e_ : (W28 e Q) = (type_of% h) := by kernel_rfl
  exact e_.mpr ⟨h.1, h.2⟩
def Body28 (e : Edit)  : Prop := awp cfg (know (know28)) (drawOk cfg (know (know28))) Tryz.f28.ntmps lv28 (cd Tryz.f28 []) (entry (args28.can (e, ())) []) (EndsQ cfg Tryz.f28.ntmps Tryz.f28.results.toList (res28 (e, ())) [])
theorem make28 (c78 : Contract Tryz.prog cfg 78 spec78) (hb : ∀ (e : Edit) (_ : Unit), pre28 (e, ()) → Body28 e) : Contract Tryz.prog cfg 28 spec28 :=
  contract_flat (l := [(78, spec78)]) cfgOk rfl (⟨c78, trivial⟩) lv28 Tryz.func28 rfl rfl 1 (fun _ => rfl) (by decide) (fun ⟨e, _⟩ => hb e ())
theorem make78_ (c121 : Contract Tryz.prog cfg 121 spec121) (c122 : Contract Tryz.prog cfg 122 spec122) (c123 : Contract Tryz.prog cfg 123 spec123) (c125 : Contract Tryz.prog cfg 125 spec125) (c216 : Contract Tryz.prog cfg 216 spec216) (c219 : Contract Tryz.prog cfg 219 spec219) (c169 : Contract Tryz.prog cfg 169 spec169) (b78 : HB78) (b124 : HB124) (b126 : HB126) (b179 : HB179) :
    Contract Tryz.prog cfg 78 spec78 ∧ Contract Tryz.prog cfg 124 spec124 ∧ Contract Tryz.prog cfg 126 spec126 ∧ Contract Tryz.prog cfg 179 spec179 := by
  have h87 : ∃ fn, Tryz.prog.funcs[(78 : FuncId)]? = some fn ∧ fn.body.isSome = true ∧ (fn.name == "runtime.NumGoroutine") = false := ⟨Tryz.f78, Tryz.func78, rfl, rfl⟩
  have h121 : ∃ fn, Tryz.prog.funcs[(124 : FuncId)]? = some fn ∧ fn.body.isSome = true ∧ (fn.name == "runtime.NumGoroutine") = false := ⟨Tryz.f124, Tryz.func124, rfl, rfl⟩
  have h122 : ∃ fn, Tryz.prog.funcs[(126 : FuncId)]? = some fn ∧ fn.body.isSome = true ∧ (fn.name == "runtime.NumGoroutine") = false := ⟨Tryz.f126, Tryz.func126, rfl, rfl⟩
  have h132 : ∃ fn, Tryz.prog.funcs[(179 : FuncId)]? = some fn ∧ fn.body.isSome = true ∧ (fn.name == "runtime.NumGoroutine") = false := ⟨Tryz.f179, Tryz.func179, rfl, rfl⟩
  have key : ∀ N, Contract Tryz.prog cfg 78 (fs args78 (fun a => [pre78 a, mu78 a < N]) res78) ∧ Contract Tryz.prog cfg 124 (fs args124 (fun a => [pre124 a, mu124 a < N]) res124) ∧ Contract Tryz.prog cfg 126 (fs args126 (fun a => [pre126 a, mu126 a < N]) res126) ∧ Contract Tryz.prog cfg 179 (fs args179 (fun a => [pre179 a, mu179 a < N]) res179) := by
    intro N
    induction N with
    | zero => exact ⟨fs_zero h87, fs_zero h121, fs_zero h122, fs_zero h132⟩
    | succ N ih =>
      have kn := know_ok (l := know78 N) ⟨ih.1, ih.2.1, ih.2.2.1, ih.2.2.2, c121, c122, c123, c125, c216, c219, c169, trivial⟩
      exact ⟨contract_fs (Γ := know (know78 N)) cfgOk rfl kn lv78 Tryz.func78 rfl rfl (fun a => by show 2 ≤ _; decide) (fun ⟨e, d, _⟩ h => b78 N e d () h.1 h.2.1),
        contract_fs (Γ := know (know78 N)) cfgOk rfl kn lv124 Tryz.func124 rfl rfl (fun a => by show 2 ≤ _; decide) (fun ⟨l, d, _⟩ h => b124 N l d () h.1 h.2.1),
        contract_fs (Γ := know (know78 N)) cfgOk rfl kn lv126 Tryz.func126 rfl rfl (fun a => by show 2 ≤ _; decide) (fun ⟨e, d, _⟩ h => b126 N e d () h.1 h.2.1),
        contract_fs (Γ := know (know78 N)) cfgOk rfl kn lv179 Tryz.func179 rfl rfl (fun a => by show 3 ≤ _; decide) (fun ⟨list, o, d, _⟩ h => b179 N list o d () h.1 h.2.1)⟩
  exact ⟨fs_less h87 fun N => (key N).1, fs_less h121 fun N => (key N).2.1, fs_less h122 fun N => (key N).2.2.1, fs_less h132 fun N => (key N).2.2.2⟩
end
end Go.AM.YtpjenobkibfpcaaGreat

namespace Go.AM.YtpjenobkibfpcaaGreat
open Go.AM Go.Proofs
theorem sameE_iff {e : Edit} : (rightE e 1 = true ∧ e.kind = 0) ↔ sameE e = true := by
  rw [rightE_at]
  simp only [sameE, Bool.and_eq_true, decide_eq_true_eq]
  by_cases hk : e.kind = 0
  · rw [if_neg (by omega)]
    by_cases hb : noneT e.old = true ∧ noneT e.new = true
    · by_cases hw : e.words.length = 0 ∧ e.kids.length = 0
      · by_cases hl : e.list = 0 ∧ e.ops.length = 0
        · have h1 : e.words = [] := List.length_eq_zero_iff.1 hw.1
          have h2 : e.kids = [] := List.length_eq_zero_iff.1 hw.2
          have h3 : e.ops = [] := List.length_eq_zero_iff.1 hl.2
          rw [if_neg (fun h => by rcases h with h | h | h; exact h.2 hb; exact h.2 hw; omega), if_neg (by omega), h1, h2, h3]
          simp only [wordsOk, rightKs, rightOs, lenA, lenB, Bool.true_and, Bool.and_true, Bool.and_eq_true, decide_eq_true_eq]
          refine ⟨fun _ => ⟨⟨⟨hk, hb.1⟩, hb.2⟩, rfl, rfl, rfl, hl.1⟩, fun _ => by simp [hk]⟩
        · rw [if_pos (Or.inr (Or.inr ⟨by omega, by omega⟩))]
          refine ⟨fun h => (nomatch h.1), fun h => absurd ⟨h.2.2.2.2, h.2.2.2.1⟩ hl⟩
      · rw [if_pos (Or.inr (Or.inl ⟨by omega, hw⟩))]
        refine ⟨fun h => (nomatch h.1), fun h => absurd ⟨h.2.1, h.2.2.1⟩ hw⟩
    · rw [if_pos (Or.inl ⟨by omega, hb⟩)]
      refine ⟨fun h => (nomatch h.1), fun h => absurd ⟨h.1.1.2, h.1.2⟩ hb⟩
  · exact ⟨fun h => absurd h.2 hk, fun h => absurd h.1.1.1 hk⟩
theorem b78 : HB78 := by
  intro N e d _ hp hN
  simp only [pre78, mu78] at hp hN
  obtain ⟨⟨hm, hr⟩, hd0, hd1⟩ := hp
  obtain ⟨ik, ro, rn, rw', il, rk, ros⟩ := rngE_at hr
  have hme := len_massE e
  have hkl := massKs_len e.kids
  have hol := massOs_len e.ops
  have hat := rightE_at e d
  rw [dT_nn hd0] at hat
  refine vc78 N e d _ ?_
  rintro y1 hy1 y2 hy2 y3 hy3
  subst hy1 hy2 hy3
  (simp only [vcS])
  have hbare : bareE y1 = true ↔ ¬((y1.kind ≠ 1 ∧ ¬(noneT y1.old = true ∧ noneT y1.new = true)) ∨ (y1.kind ≠ 2 ∧ ¬(y1.words.length = 0 ∧ y1.kids.length = 0)) ∨ (y1.kind ≠ 3 ∧ (y1.list ≠ 0 ∨ y1.ops.length ≠ 0))) := by
    unfold bareE
    split
    · rename_i h; exact ⟨fun h => (nomatch h), fun h2 => absurd h h2⟩
    · rename_i h; exact ⟨fun _ => h, fun _ => rfl⟩
  refine ⟨by simp only [pre121]; omega, fun hc => ends_bool rfl ?_, fun hc => ?_⟩
  · rcases hc with hc | hc
    · rw [hat]
      split
      · rfl
      · rw [if_pos (Classical.byContradiction fun h => by rw [hbare.2 h] at hc; cases hc)]
    · rw [hat, if_pos (Or.inl hc)]
  have hb := hbare.1 hc.1
  have hr2 : ¬(y1.kind = 0 ∨ y1.kind = 1 ∨ y1.kind = 2 ∨ y1.kind = 3) → rightE y1 d = false := fun h => by rw [hat, if_pos (by omega)]
  by_cases hk : y1.kind = 0 ∨ y1.kind = 1 ∨ y1.kind = 2 ∨ y1.kind = 3
  · rw [if_neg (by omega), if_neg hb] at hat
    have hw : y1.kind ≠ 2 → y1.words = [] ∧ y1.kids = [] := by
      intro h
      have : y1.words.length = 0 ∧ y1.kids.length = 0 := Classical.byContradiction fun h2 => hb (Or.inr (Or.inl ⟨h, h2⟩))
      exact ⟨List.length_eq_zero_iff.1 this.1, List.length_eq_zero_iff.1 this.2⟩
    have ho : y1.kind ≠ 3 → y1.list = 0 ∧ y1.ops = [] := by
      intro h
      have : y1.list = 0 ∧ y1.ops.length = 0 := by
        constructor
        · exact Classical.byContradiction fun h2 => hb (Or.inr (Or.inr ⟨h, Or.inl h2⟩))
        · exact Classical.byContradiction fun h2 => hb (Or.inr (Or.inr ⟨h, Or.inr h2⟩))
      exact ⟨this.1, List.length_eq_zero_iff.1 this.2⟩
    refine ⟨fun h0 => ends_bool rfl ?_, fun h0 => ⟨fun h1 => ⟨by simp only [pre122]; exact ⟨by omega, ro⟩, fun _ => by simp only [pre122]; exact ⟨by omega, rn⟩, ends_bool rfl ?_⟩, fun h1 => ⟨fun h2 => ⟨by simp only [pre123]; exact ⟨by omega, rw'⟩, fun _ => by unfold InR; omega, fun _ => by simp only [pre124]; exact ⟨⟨by omega, rk⟩, by omega, by omega⟩, fun _ => by simp only [mu124]; omega, ends_bool rfl ?_⟩, fun h2 => ⟨fun h3 => ⟨trivial, fun _ => by unfold InR; omega, fun hl => by simp only [pre126]; exact ⟨⟨by omega, hr, hl⟩, by omega, by omega⟩, fun _ => by simp only [mu126]; omega, ends_bool rfl ?_⟩, fun h3 => ?_⟩⟩⟩⟩
    · rw [hat, if_neg (by omega), (hw (by omega)).1, (hw (by omega)).2, (ho (by omega)).1, (ho (by omega)).2]
      simp [wordsOk, rightKs, rightOs, lenA, lenB]
      omega
    · rw [hat, if_pos h1, Bool.eq_iff_iff]
      (simp only [vcS])
      exact ⟨fun h => ⟨⟨h.1.2, h.2.2⟩, h.1.1, h.2.1⟩, fun h => ⟨⟨h.2.1, h.1.1⟩, h.2.2, h.1.2⟩⟩
    · rw [hat, if_neg h1, (ho (by omega)).1, (ho (by omega)).2, Bool.eq_iff_iff]
      simp only [rightOs, lenA, lenB]
      (simp only [vcS])
      constructor
      · rintro ⟨a, b⟩
        exact ⟨⟨⟨⟨a, b⟩, by omega⟩, trivial⟩, by decide⟩
      · rintro ⟨⟨⟨⟨a, b⟩, _⟩, _⟩, _⟩
        exact ⟨a, b⟩
    · rw [hat, if_neg h1, (hw (by omega)).1, (hw (by omega)).2, Bool.eq_iff_iff]
      simp only [wordsOk, rightKs]
      (simp only [vcS])
      constructor
      · rintro ⟨a, b, c⟩
        exact ⟨⟨⟨⟨trivial, trivial⟩, by omega⟩, b⟩, c⟩
      · rintro ⟨⟨⟨_, a⟩, b⟩, c⟩
        exact ⟨by omega, b, c⟩
    · omega
  · have he := hr2 hk
    refine ⟨fun h0 => by omega, fun h0 => ⟨fun h1 => by omega, fun h1 => ⟨fun h2 => by omega, fun h2 => ⟨fun h3 => by omega, fun h3 => ends_bool rfl ?_⟩⟩⟩⟩
    rw [he]
theorem b124 : HB124 := by
  intro N l d _ hp hN
  simp only [pre124, mu124] at hp hN
  obtain ⟨⟨hm, hr⟩, hd0, hd1⟩ := hp
  have hl := massKs_len l
  refine vc124 N l d _ ?_
  refine loop_rule (ι := Int) (fun i => head124_0 l d i) (fun i => 0 ≤ i ∧ i ≤ l.length ∧ ∃ last, -1 ≤ last ∧ (i = 0 → last = -1) ∧ (0 < i → last = (l.getD (i - 1).toNat (KidOf.mk 0 Edit.nil)).at_) ∧ rightKs last (l.drop i.toNat) d = rightKs (-1) l d) (fun i => ((l.length : Int) - i).toNat) 0 rfl ⟨by omega, by omega, -1, by omega, fun _ => rfl, fun h => by omega, by simp⟩ ?_
  rintro i ⟨g1, g2, last, g3, g4, g5, g6⟩
  refine vc124_l0 N l d i _ _ ?_
  rintro y1 hy1 y2 hy2 y3 hy3
  (simp only [vcS])
  refine ⟨fun hi => ?_, fun hi => ?_⟩
  · have hmem := mem_getD (l := l) (i := i.toNat) (by omega) (KidOf.mk 0 Edit.nil)
    have hmk := massKs_mem hmem
    have hrk := rngKs_mem hr hmem
    rw [dropI g1 hi (KidOf.mk 0 Edit.nil)] at g6
    rw [← hy1] at g6 hmk hrk
    rw [← hy2] at g5
    rw [← hy3] at hmk hrk
    simp only [rightKs, rightKid_at] at g6
    rw [← hy3] at g6
    have hk : y1.e.kind = y3.kind := by rw [hy3]
    rw [hk]
    have gl : (¬0 < i ∨ ¬y1.at_ ≤ y2.at_) ∧ ¬y1.at_ < 0 ↔ last < y1.at_ ∧ ¬ y1.at_ < 0 := by
      by_cases h0 : 0 < i
      · have := g5 h0; omega
      · have := g4 (by omega); omega
    refine ⟨⟨g1, hi⟩, fun _ => by unfold InR; omega, fun _ => by omega, fun _ => ?_, fun _ => by simp only [mu78]; omega, fun hc => ends_bool rfl ?_, fun hc => ⟨by unfold InR; omega, i + 1, rfl, ⟨by omega, by omega, y1.at_, by omega, fun h => by omega, fun _ => by rw [show (i + 1 - 1).toNat = i.toNat by omega, ← hy1], ?_⟩, by omega⟩⟩
    · simp only [pre78]
      exact ⟨⟨by omega, hrk.2⟩, hd0, hd1⟩
    · rw [← g6]
      by_cases hr : rightE y3 d = true
      · rw [decide_eq_false (fun h => ?_)]
        · rfl
        · rcases hc with hc | hc
          · rcases hc with (hc | hc) | hc
            · omega
            · by_cases h0 : 0 < i
              · have := g5 h0; omega
              · omega
            · exact h.2.2 hc
          · rw [hr] at hc; cases hc
      · simp only [Bool.not_eq_true] at hr
        rw [hr]; simp
    · rw [← g6, hc.2, decide_eq_true (show last < y1.at_ ∧ y1.at_ ≤ 65534 ∧ y3.kind ≠ 0 by
        refine ⟨?_, by omega, hc.1.2⟩
        by_cases h0 : 0 < i
        · have := g5 h0; omega
        · have := g4 (by omega); omega)]
      rfl
  · rw [List.drop_of_length_le (by omega)] at g6
    simp only [res124]
    rw [← g6]
    exact ends_bool rfl rfl
theorem rightOs_every {list d : Int} : ∀ {os : List Op}, (∀ o ∈ os, rightOp list o d = true) → rightOs list os d = true
  | [], _ => rfl
  | o :: r, h => by
    simp only [rightOs, Bool.and_eq_true]
    exact ⟨h o (List.mem_cons_self ..), rightOs_every (fun x hx => h x (List.mem_cons_of_mem _ hx))⟩
theorem b126 : HB126 := by
  intro N e d _ hp hN
  simp only [pre126, mu126] at hp hN
  obtain ⟨⟨hm, hr, hl⟩, hd0, hd1⟩ := hp
  obtain ⟨ik, ro, rn, rw', il, rk, ros⟩ := rngE_at hr
  have hme := len_massE e
  have hol := massOs_len e.ops
  refine vc126 N e d _ ?_
  refine loop_rule (ι := Int) (fun i => head126_0 e d i) (fun i => 0 ≤ i ∧ i ≤ e.ops.length ∧ ∀ o ∈ e.ops.take i.toNat, rightOp e.list o d = true) (fun i => ((e.ops.length : Int) - i).toNat) 0 rfl ⟨by omega, by omega, by simp⟩ ?_
  rintro i ⟨g1, g2, g3⟩
  refine vc126_l0 N e d i _ _ ?_
  rintro y1 hy1 y2 hy2 y3 hy3
  subst hy1 hy3
  (simp only [vcS])
  refine ⟨fun hi => ?_, fun hi => ?_⟩
  · have hmem := mem_getD (l := y1.ops) (i := i.toNat) (by omega) Op.nil
    have hmo := massOs_mem hmem
    have hro := rngOs_mem ros hmem
    rw [← hy2] at hmem hmo hro
    refine ⟨⟨g1, hi⟩, ?_, by simp only [mu179]; omega, fun hc => ends_bool rfl ?_, fun hc => ⟨by unfold InR; omega, i + 1, rfl, ⟨by omega, by omega, fun o ho => ?_⟩, by omega⟩⟩
    · simp only [pre179]
      exact ⟨⟨by omega, hro, hl⟩, hd0, hd1⟩
    · have : rightOs y1.list y1.ops d = false := by
        rw [← Bool.not_eq_true]
        intro h
        have := rightOs_mem h hmem
        rw [hc] at this; cases this
      rw [this, Bool.false_and]
    · rw [show (i + 1).toNat = i.toNat + 1 by omega, List.take_add_one] at ho
      rcases List.mem_append.1 ho with ho | ho
      · exact g3 o ho
      · have e : y1.ops[i.toNat]? = some y3 := by
          rw [hy2]
          simp [List.getD, List.getElem?_eq_getElem (show i.toNat < y1.ops.length by omega)]
        rw [e] at ho
        simp only [Option.toList_some, List.mem_singleton] at ho
        subst ho
        exact hc
  · rw [List.take_of_length_le (by omega)] at g3
    have hall : rightOs y1.list y1.ops d = true := rightOs_every g3
    have hb : ∀ o ∈ y1.ops, (0 ≤ o.n ∧ o.n ≤ 1048576) ∧ o.l.length ≤ 20000000000 := by
      intro o ho
      refine ⟨rightOp_n (g3 o ho), ?_⟩
      have h1 := massOs_mem ho
      rw [massOp_e] at h1
      have h2 := massK_len o.l
      omega
    refine ⟨by simp only [pre169]; omega, ends_bool rfl ?_⟩
    rw [lenAW_eq _ _ hb (by decide) (by decide), lenBW_eq _ _ hb (by decide) (by decide), hall, Bool.true_and]
    by_cases h1 : lenA y1.ops 0 < 1048576 <;> by_cases h2 : lenB y1.ops 0 < 1048576 <;> simp [h1, h2]
theorem b179 : HB179 := by
  intro N list o d _ hp hN
  simp only [pre179, mu179] at hp hN
  obtain ⟨⟨hm, hr, hil⟩, hd0, hd1⟩ := hp
  obtain ⟨ik, inn, rl, re⟩ := rngOp_e hr
  rw [massOp_e] at hm hN
  have hll := massK_len o.l
  have hep := massE_pos o.e
  have hat := rightOp_at list o d
  rw [dT_nn hd0, treesG_64] at hat
  have hs := sameE_iff (e := o.e)
  refine vc179 N list o d _ ?_
  rintro y1 hy1 y2 hy2
  subst hy1
  (simp only [vcS])
  have hp87 : pre78 (o.e, 1, ()) := by simp only [pre78]; exact ⟨⟨by omega, re⟩, by omega, by omega⟩
  have hm87 : mu78 (o.e, 1, ()) < N := by simp only [mu78]; omega
  have hp135 : pre216 (o.l, (list, ()), ()) := by simp only [pre216]; exact ⟨by omega, rl, by unfold isI; omega⟩
  have h12 : o.kind = 1 ∨ o.kind = 2 → y2 = .bool (rightOp list o d) := by
    intro hk
    rw [hy2, hat, if_neg (by omega)]
    congr 1
    rw [Bool.eq_iff_iff]
    (simp only [vcS])
    by_cases hn : o.n = 0
    · rw [if_neg (by omega), if_pos (by omega)]
      (simp only [vcS])
      constructor
      · rintro ⟨⟨⟨⟨h1, h2⟩, h3⟩, h4⟩, h5⟩
        exact ⟨⟨h5, by omega⟩, hs.1 ⟨h3, h4⟩⟩
      · rintro ⟨⟨h5, h2⟩, h3⟩
        have := hs.2 h3
        exact ⟨⟨⟨⟨hn, by omega⟩, this.1⟩, this.2⟩, h5⟩
    · rw [if_pos (by omega)]
      exact ⟨fun h => absurd h.1.1.1.1 hn, fun h => (nomatch h)⟩
  refine ⟨fun hk => ⟨fun _ => hp87, fun _ => hm87, ends_bool rfl ?_⟩, fun hk => ⟨fun hk1 => ⟨fun _ => hp87, fun _ => hm87, fun _ => hp135, ?_⟩, fun hk1 => ⟨fun hk2 => ⟨fun _ => hp87, fun _ => hm87, fun _ => hp135, ?_⟩, fun hk2 => ⟨fun hk3 => ⟨fun _ => trivial, fun _ => ?_, fun _ => by simp only [mu78]; omega, ends_bool rfl ?_⟩, fun hk3 => ends_bool rfl ?_⟩⟩⟩⟩
  · rw [hat, if_pos hk, Bool.eq_iff_iff]
    (simp only [vcS])
    constructor
    · rintro ⟨⟨⟨h1, h2⟩, h3⟩, h4⟩
      exact ⟨⟨h1.1, h1.2, by omega⟩, hs.1 ⟨h3, h4⟩⟩
    · rintro ⟨⟨h1, h2, h3⟩, h4⟩
      have := hs.2 h4
      exact ⟨⟨⟨⟨h1, h2⟩, by omega⟩, this.1⟩, this.2⟩
  · rw [h12 (Or.inl hk1)]
    exact ends_bool rfl rfl
  · rw [h12 (Or.inr hk2)]
    exact ends_bool rfl rfl
  · simp only [pre78]; exact ⟨⟨by omega, re⟩, hd0, hd1⟩
  · rw [hat, if_neg hk, Bool.eq_iff_iff]
    by_cases hn : o.n = 0
    · rw [if_neg (by omega), if_neg (by omega)]
      have hw : withinB list o.e = true ↔ (o.e.kind ≠ 0 ∧ 7 < list) ∧ (list = 8 ∨ o.e.kind = 2 ∨ o.e.kind = 1 ∧ o.e.old.kind = 1 ∧ o.e.new.kind = 1) := by
        unfold withinB
        split
        · exact ⟨fun h => (nomatch h), fun h => by omega⟩
        · split
          · exact ⟨fun _ => ⟨by omega, by omega⟩, fun _ => rfl⟩
          · rw [decide_eq_true_eq]
            exact ⟨fun h => ⟨by omega, Or.inr (Or.inr h)⟩, fun h => by omega⟩
      (simp only [vcS])
      rw [hw]
      constructor
      · rintro ⟨⟨h1, h2⟩, h3⟩
        exact ⟨⟨⟨by omega, h2.1⟩, h3⟩, h2.2⟩
      · rintro ⟨⟨⟨h1, h2⟩, h3⟩, h4⟩
        exact ⟨⟨⟨hn, by omega⟩, h2, h4⟩, h3⟩
    · rw [if_pos (by omega)]
      (simp only [vcS])
      exact ⟨fun h => absurd h.1.1.1 hn, fun h => (nomatch h)⟩
  · rw [hat, if_neg hk]
    by_cases hn : o.n ≠ 0 ∨ o.kind < 0 ∨ 3 < o.kind
    · rw [if_pos hn]
    · exfalso; omega
theorem c78_ : Contract Tryz.prog cfg 78 spec78 ∧ Contract Tryz.prog cfg 124 spec124 ∧ Contract Tryz.prog cfg 126 spec126 ∧ Contract Tryz.prog cfg 179 spec179 :=
  make78_ c121 c122 c123 c125 c216 c219 c169 b78 b124 b126 b179
theorem c28 : Contract Tryz.prog cfg 28 spec28 := by
  refine make28 c78_.1 ?_
  intro e _ hp
  simp only [pre28] at hp
  refine vc28 _ _ ?_
  (simp only [Tree.eta, Edit.eta, Tree.kind_mk, Tree.words_mk, Tree.kids_mk])
  refine ⟨by simp only [pre78]; exact ⟨hp, by omega, by omega⟩, ?_⟩
  exact ends_bool rfl rfl
end Go.AM.YtpjenobkibfpcaaGreat

namespace Go.AM
instance : Inhabited PStep := ⟨⟨0, 0⟩⟩
def fitsS (s : PStep) (t : Tree) : Prop := s.kind = 0 ∧ 0 ≤ s.at_ ∧ (t.kind = 1 ∧ s.at_ < 65535 ∨ (2 ≤ t.kind ∧ t.kind ≤ 9) ∧ s.at_ < t.kids.length)
instance (s : PStep) (t : Tree) : Decidable (fitsS s t) := by unfold fitsS; infer_instance
end Go.AM

namespace Go.AM.YtpjenobkibfpcaaGreat
open Go.AM Go.Proofs
noncomputable section
structure Lft where
  x : Edit
  y : Edit
  c : Bool
  a : Bool
end
end Go.AM.YtpjenobkibfpcaaGreat

namespace Go.AM.YtpjenobkibfpcaaGreat
open Go.AM Go.Proofs
variable {K : Nat}
theorem φB_nn {o : Op} (h : opOk o) : 0 ≤ φB o := by unfold φB; have := opLen_pos h; split <;> omega
end Go.AM.YtpjenobkibfpcaaGreat

namespace Go.AM.YtpjenobkibfpcaaGreat
open Go.AM Go.Proofs
instance decStep : DecidableEq PStep := fun a b => decidable_of_iff (a.kind = b.kind ∧ a.at_ = b.at_) (by cases a; cases b; simp)
end Go.AM.YtpjenobkibfpcaaGreat

namespace Go.AM.YtpjenobkibfpcaaGreat
open Go.AM Go.Proofs
theorem someT_of {o : Option Tree} (h : o.isSome = true) : ∃ v, o = some v := by cases o with | none => cases h | some v => exact ⟨v, rfl⟩
end Go.AM.YtpjenobkibfpcaaGreat

namespace Go.AM.YtpjenobkibfpcaaGreat
open Go.AM Go.Proofs
noncomputable section
structure Hist where
  now : Tree
  done : List Edit
  gone : List Edit
def stepN (e : Edit) (t : Tree) : Tree × Int :=
  match doE false e t with
  | none => (t, 13)
  | some u => if rightT (normT u) 64 = true then (normT u, 0) else (t, 3)
def stepOk (e : Edit) (t : Tree) : Prop := (massE e ≤ 20000000000 ∧ rngE e ∧ ∃ d, rightE e d = true) ∧ mass t + ctE e ≤ 20000000000 ∧ rng t
def doN (e : Edit) (h : Hist) : Hist × Int :=
  if rightE e 64 = true then
    if (stepN (nrmE e) h.now).2 = 0 then (⟨(stepN (nrmE e) h.now).1, h.done ++ [nrmE e], []⟩, 0) else (h, (stepN (nrmE e) h.now).2)
  else (h, 2)
def lastE (l : List Edit) : Edit := l.getD (l.length - 1) Edit.nil
def undoN (h : Hist) : Hist × Bool :=
  if h.done.length = 0 then (h, false)
  else if (stepN (nrmE (turnE (lastE h.done))) h.now).2 = 0 then (⟨(stepN (nrmE (turnE (lastE h.done))) h.now).1, h.done.take (h.done.length - 1), h.gone ++ [lastE h.done]⟩, true)
  else (h, false)
def redoN (h : Hist) : Hist × Bool :=
  if h.gone.length = 0 then (h, false)
  else if (stepN (lastE h.gone) h.now).2 = 0 then (⟨(stepN (lastE h.gone) h.now).1, h.done ++ [lastE h.gone], h.gone.take (h.gone.length - 1)⟩, true)
  else (h, false)
end
end Go.AM.YtpjenobkibfpcaaGreat

namespace Go.AM.YtpjenobkibfpcaaGreat
open Go.AM Go.Proofs
def args84 : ArgL (List Edit × Unit) := (.cons (aSl .edit) .nil)
def pre84 (a : List Edit × Unit) : Prop := (a.1).length ≤ 10000000000
noncomputable def res84 (a : List Edit × Unit) : V U := .c (.slice (U := U) .edit a.1 (.own (.r 0 0)))
noncomputable def spec84 : Fs U := fs args84 (fun a => [pre84 a]) res84
def args33 : ArgL (Tree × Unit) := (.cons (aEl .tree) .nil)
def pre33 (a : Tree × Unit) : Prop := (mass a.1 ≤ 20000000000 ∧ rng a.1) ∧ rightT a.1 64 = true ∧ Tree.kind a.1 ≠ 10
noncomputable def res33 (a : Tree × Unit) : List (C U) := [.int .i64 (Tree.kind (normT a.1)), .slice (U := U) .u64 (Tree.words (normT a.1)) .unk, .slice (U := U) .tree (Tree.kids (normT a.1)) .unk, .slice (U := U) .edit ([] : List Edit) .unk, .slice (U := U) .edit ([] : List Edit) .unk]
noncomputable def spec33 : Fs U := fsN args33 (fun a => [pre33 a]) res33
def args35 : ArgM ((Int × List Int × List Tree × List Edit × List Edit × Unit) × Unit) := (.obj 0 (.cons (cInt .i64) (.cons (cSl .u64) (.cons (cSl .tree) (.cons (cSl .edit) (.cons (cSl .edit) .nil))))) .nil)
def pre35 (a : (Int × List Int × List Tree × List Edit × List Edit × Unit) × Unit) : Prop := True
noncomputable def res35 (a : (Int × List Int × List Tree × List Edit × List Edit × Unit) × Unit) : V U := .agg [.int .i64 (Tree.kind (Tree.mk a.1.1 a.1.2.1 a.1.2.2.1)), .slice (U := U) .u64 (Tree.words (Tree.mk a.1.1 a.1.2.1 a.1.2.2.1)) .unk, .slice (U := U) .tree (Tree.kids (Tree.mk a.1.1 a.1.2.1 a.1.2.2.1)) .unk]
noncomputable def resX35 (a : (Int × List Int × List Tree × List Edit × List Edit × Unit) × Unit) : List (List (C U)) := [[.int .i64 (Tree.kind ((Tree.mk a.1.1 a.1.2.1 a.1.2.2.1))), .slice (U := U) .u64 (Tree.words ((Tree.mk a.1.1 a.1.2.1 a.1.2.2.1))) .unk, .slice (U := U) .tree (Tree.kids ((Tree.mk a.1.1 a.1.2.1 a.1.2.2.1))) .unk, .slice (U := U) .edit a.1.2.2.2.1 .unk, .slice (U := U) .edit a.1.2.2.2.2.1 .unk]]
noncomputable def spec35 : Fs U := fsX args35 (fun a => [pre35 a]) res35 resX35
def args83 : ArgM ((Int × List Int × List Tree × List Edit × List Edit × Unit) × Edit × Unit) := (.obj 0 (.cons (cInt .i64) (.cons (cSl .u64) (.cons (cSl .tree) (.cons (cSl .edit) (.cons (cSl .edit) .nil))))) (.cons (aEl .edit) .nil))
def pre83 (a : (Int × List Int × List Tree × List Edit × List Edit × Unit) × Edit × Unit) : Prop := stepOk a.2.1 (Tree.mk a.1.1 a.1.2.1 a.1.2.2.1)
noncomputable def res83 (a : (Int × List Int × List Tree × List Edit × List Edit × Unit) × Edit × Unit) : V U := .c (.int .i64 ((stepN a.2.1 (Tree.mk a.1.1 a.1.2.1 a.1.2.2.1)).2))
noncomputable def resX83 (a : (Int × List Int × List Tree × List Edit × List Edit × Unit) × Edit × Unit) : List (List (C U)) := [[.int .i64 (Tree.kind ((stepN a.2.1 (Tree.mk a.1.1 a.1.2.1 a.1.2.2.1)).1)), .slice (U := U) .u64 (Tree.words ((stepN a.2.1 (Tree.mk a.1.1 a.1.2.1 a.1.2.2.1)).1)) .unk, .slice (U := U) .tree (Tree.kids ((stepN a.2.1 (Tree.mk a.1.1 a.1.2.1 a.1.2.2.1)).1)) .unk, .slice (U := U) .edit a.1.2.2.2.1 .unk, .slice (U := U) .edit a.1.2.2.2.2.1 .unk]]
noncomputable def spec83 : Fs U := fsX args83 (fun a => [pre83 a]) res83 resX83
noncomputable def know84 : List (FuncId × Fs U) := []
def lv84 : Lives U := fun i => match i with
  | 0 => ([(0, [])], [])
  | 1 => ([(0, []), (4, [])], [])
  | 2 => ([(2, [])], [])
  | 3 => ([(2, [])], [])
  | _ => ([], [])
noncomputable abbrev A84 (p : List Nat) := awp cfg (know know84) (drawOk cfg (know know84)) Tryz.f84.ntmps lv84 (cd Tryz.f84 p)
theorem vc84 (l : List Edit) (Q : AExit → LSt U → Prop) (h : ((((l = []) → (Q .ret (⟨[(2, .c (.nils))], [], []⟩ : LSt U))) ∧ ((True) → ((([] : List Edit).length + l.length) * 200 ≤ 140737488355328) ∧ (Q .ret (⟨[(2, .c (.slice (U := U) .edit (([] : List Edit) ++ l) (.own (.e 2 0))))], [], []⟩ : LSt U)))))) :
    A84 [] (⟨[(0, .c (.slice (U := U) .edit l .unk))], [], []⟩ : LSt U) Q :=
  Eq.mpr (by kernel_rfl) h
def Body84 (l : List Edit)  : Prop := awp cfg (know (know84)) (drawOk cfg (know (know84))) Tryz.f84.ntmps lv84 (cd Tryz.f84 []) (entry (args84.can (l, ())) []) (EndsQ cfg Tryz.f84.ntmps Tryz.f84.results.toList (res84 (l, ())) [])
theorem make84 (hb : ∀ (l : List Edit) (_ : Unit), pre84 (l, ()) → Body84 l) : Contract Tryz.prog cfg 84 spec84 :=
  contract_flat (l := []) cfgOk rfl (trivial) lv84 Tryz.func84 rfl rfl 1 (fun _ => rfl) (by decide) (fun ⟨l, _⟩ => hb l ())
noncomputable def know33 : List (FuncId × Fs U) := [(82, spec82), (75, spec75)]
def lv33 : Lives U := fun i => match i with
  | 0 => ([(1, [])], [((.loc 1), [])])
  | 1 => ([(1, []), (10, [])], [((.loc 1), [])])
  | 2 => ([(2, [])], [])
  | 3 => ([(2, [])], [((.loc 14), [])])
  | _ => ([], [])
noncomputable abbrev A33 (p : List Nat) := awp cfg (know know33) (drawOk cfg (know know33)) Tryz.f33.ntmps lv33 (cd Tryz.f33 p)
theorem vc33 (t : Tree) (Q : AExit → LSt U → Prop) (h : ((pre82 ((Tree.mk (Tree.kind t) (Tree.words t) (Tree.kids t)), ())) ∧ (Tr ((!(!(rightT (Tree.mk (Tree.kind t) (Tree.words t) (Tree.kids t)) 64))) = true)) ∧ (Tr ((!(!(rightT (Tree.mk (Tree.kind t) (Tree.words t) (Tree.kids t)) 64))) = true)) ∧ (((!(rightT (Tree.mk (Tree.kind t) (Tree.words t) (Tree.kids t)) 64)) = false → (!(!(rightT (Tree.mk (Tree.kind t) (Tree.words t) (Tree.kids t)) 64))) = true)) ∧ (((bif (!(rightT (Tree.mk (Tree.kind t) (Tree.words t) (Tree.kids t)) 64)) then true else (((Tree.kind t) : Int) == 10)) = true → (Q .ret (⟨[(2, .c (.nilp))], [], []⟩ : LSt U))) ∧ ((bif (!(rightT (Tree.mk (Tree.kind t) (Tree.words t) (Tree.kids t)) 64)) then true else (((Tree.kind t) : Int) == 10)) = false → (pre75 ((Tree.mk (Tree.kind t) (Tree.words t) (Tree.kids t)), ())) ∧ (Q .ret (⟨[(2, .ptr (.loc 14) 0)], [((.loc 14), [.int .i64 (Tree.kind (normT (Tree.mk (Tree.kind t) (Tree.words t) (Tree.kids t)))), .slice (U := U) .u64 (Tree.words (normT (Tree.mk (Tree.kind t) (Tree.words t) (Tree.kids t)))) .unk, .slice (U := U) .tree (Tree.kids (normT (Tree.mk (Tree.kind t) (Tree.words t) (Tree.kids t)))) .unk, .nils, .nils])], []⟩ : LSt U)))))) :
    A33 [] (⟨[(0, .agg [.int .i64 (Tree.kind t), .slice (U := U) .u64 (Tree.words t) .unk, .slice (U := U) .tree (Tree.kids t) .unk])], [], []⟩ : LSt U) Q :=
  Eq.mpr (by kernel_rfl) h
def Body33 (t : Tree)  : Prop := awp cfg (know (know33)) (drawOk cfg (know (know33))) Tryz.f33.ntmps lv33 (cd Tryz.f33 []) (entry (args33.can (t, ())) []) (EndsQN cfg Tryz.f33.ntmps Tryz.f33.results.toList (res33 (t, ())))
theorem make33 (c82 : Contract Tryz.prog cfg 82 spec82) (c75 : Contract Tryz.prog cfg 75 spec75) (hb : ∀ (t : Tree) (_ : Unit), pre33 (t, ()) → Body33 t) : Contract Tryz.prog cfg 33 spec33 :=
  contract_flatN (l := [(82, spec82), (75, spec75)]) cfgOk rfl (⟨c82, c75, trivial⟩) lv33 Tryz.func33 rfl rfl 1 (fun _ => rfl) (by decide) (fun ⟨t, _⟩ => hb t ())
noncomputable def know35 : List (FuncId × Fs U) := []
def lv35 : Lives U := fun i => match i with
  | 0 => ([(0, []), (2, [])], [((.loc 2), []), ((.x 0), [])])
  | 1 => ([(0, []), (2, []), (4, [])], [((.loc 2), []), ((.x 0), [])])
  | 2 => ([(2, [])], [((.loc 2), []), ((.x 0), [])])
  | 3 => ([(2, [])], [((.loc 2), []), ((.x 0), [])])
  | _ => ([], [])
noncomputable abbrev A35 (p : List Nat) := awp cfg (know know35) (drawOk cfg (know know35)) Tryz.f35.ntmps lv35 (cd Tryz.f35 p)
theorem vc35 (hk : Int) (hw : List Int) (hc : List Tree) (hd : List Edit) (hg : List Edit) (Q : AExit → LSt U → Prop) (h : ((((false) = true → (Q .ret (⟨[(2, .ptr (.loc 2) 0)], [((.loc 2), [.int .i64 0, .nils, .nils]), ((.x 0), [.int .i64 hk, .slice (U := U) .u64 hw .unk, .slice (U := U) .tree hc .unk, .slice (U := U) .edit hd .unk, .slice (U := U) .edit hg .unk])], []⟩ : LSt U))) ∧ ((false) = false → (Q .ret (⟨[(2, .ptr (.loc 2) 0)], [((.loc 2), [.int .i64 hk, .slice (U := U) .u64 hw .unk, .slice (U := U) .tree hc .unk]), ((.x 0), [.int .i64 hk, .slice (U := U) .u64 hw .unk, .slice (U := U) .tree hc .unk, .slice (U := U) .edit hd .unk, .slice (U := U) .edit hg .unk])], []⟩ : LSt U)))))) :
    A35 [] (⟨[(0, .ptr (.x 0) 0)], [((.x 0), [.int .i64 hk, .slice (U := U) .u64 hw .unk, .slice (U := U) .tree hc .unk, .slice (U := U) .edit hd .unk, .slice (U := U) .edit hg .unk])], []⟩ : LSt U) Q :=
  Eq.mpr (by kernel_rfl) h
def Body35 (hk : Int) (hw : List Int) (hc : List Tree) (hd : List Edit) (hg : List Edit)  : Prop := awp cfg (know (know35)) (drawOk cfg (know (know35))) Tryz.f35.ntmps lv35 (cd Tryz.f35 []) (entry (args35.can ((hk, hw, hc, hd, hg, ()), ())) (args35.canX ((hk, hw, hc, hd, hg, ()), ()))) (EndsQ cfg Tryz.f35.ntmps Tryz.f35.results.toList (res35 ((hk, hw, hc, hd, hg, ()), ())) (resX35 ((hk, hw, hc, hd, hg, ()), ())))
theorem make35 (hb : ∀ (hk : Int) (hw : List Int) (hc : List Tree) (hd : List Edit) (hg : List Edit) (_ : Unit), pre35 ((hk, hw, hc, hd, hg, ()), ()) → Body35 hk hw hc hd hg) : Contract Tryz.prog cfg 35 spec35 :=
  contractX_flat (l := []) cfgOk rfl (trivial) lv35 Tryz.func35 rfl rfl 1 (fun _ => rfl) (by decide) (fun ⟨⟨hk, hw, hc, hd, hg, _⟩, _⟩ => hb hk hw hc hd hg ())
noncomputable def know83 : List (FuncId × Fs U) := [(25, spec25), (82, spec82)]
def lv83 : Lives U := fun i => match i with
  | 0 => ([(0, []), (3, [])], [((.loc 3), []), ((.x 0), [])])
  | 1 => ([(0, []), (5, []), (6, [])], [((.loc 5), []), ((.x 0), [])])
  | 2 => ([(0, []), (5, []), (16, [])], [((.loc 5), []), ((.x 0), [])])
  | 3 => ([(4, [])], [((.x 0), [])])
  | 4 => ([(0, []), (5, []), (19, [])], [((.loc 5), []), ((.x 0), [])])
  | 5 => ([(4, [])], [((.x 0), [])])
  | 6 => ([], [((.x 0), [])])
  | 7 => ([(4, [])], [((.x 0), [])])
  | _ => ([], [])
noncomputable abbrev A83 (p : List Nat) := awp cfg (know know83) (drawOk cfg (know know83)) Tryz.f83.ntmps lv83 (cd Tryz.f83 p)
theorem vc83 (hk : Int) (hw : List Int) (hc : List Tree) (hd : List Edit) (hg : List Edit) (e : Edit) (Q : AExit → LSt U → Prop) (h : ∀ y_1, y_1 = (e) → ∀ y_2, y_2 = ((orNil ((doE false y_1 (Tree.mk hk hw hc)).map normT))) → ((pre25 (y_1, (Tree.mk hk hw hc), ())) ∧ ((((!((doE false y_1 (Tree.mk hk hw hc)).isSome)) = true → (Q .ret (⟨[(4, .c (.int .i64 13))], [((.x 0), [.int .i64 hk, .slice (U := U) .u64 hw .unk, .slice (U := U) .tree hc .unk, .slice (U := U) .edit hd .unk, .slice (U := U) .edit hg .unk])], []⟩ : LSt U))) ∧ ((!((doE false y_1 (Tree.mk hk hw hc)).isSome)) = false → (pre82 (y_2, ())) ∧ (((!(rightT y_2 64)) = true → (Q .ret (⟨[(4, .c (.int .i64 3))], [((.x 0), [.int .i64 hk, .slice (U := U) .u64 hw .unk, .slice (U := U) .tree hc .unk, .slice (U := U) .edit hd .unk, .slice (U := U) .edit hg .unk])], []⟩ : LSt U))) ∧ ((!(rightT y_2 64)) = false → ((Q .ret (⟨[(4, .c (.int .i64 0))], [((.x 0), [.int .i64 (Tree.kind (orNil ((doE false y_1 (Tree.mk hk hw hc)).map normT))), .slice (U := U) .u64 (Tree.words (orNil ((doE false y_1 (Tree.mk hk hw hc)).map normT))) .unk, .slice (U := U) .tree (Tree.kids (orNil ((doE false y_1 (Tree.mk hk hw hc)).map normT))) .unk, .slice (U := U) .edit hd .unk, .slice (U := U) .edit hg .unk])], []⟩ : LSt U)))))))))) :
    A83 [] (⟨[(0, .ptr (.x 0) 0), (1, .agg [.int .i64 (Edit.kind e), .int .i64 (Tree.kind (Edit.old e)), .slice (U := U) .u64 (Tree.words (Edit.old e)) .unk, .slice (U := U) .tree (Tree.kids (Edit.old e)) .unk, .int .i64 (Tree.kind (Edit.new e)), .slice (U := U) .u64 (Tree.words (Edit.new e)) .unk, .slice (U := U) .tree (Tree.kids (Edit.new e)) .unk, .slice (U := U) .wedit (Edit.words e) .unk, .slice (U := U) .kid (Edit.kids e) .unk, .int .i64 (Edit.list e), .slice (U := U) .op (Edit.ops e) .unk])], [((.x 0), [.int .i64 hk, .slice (U := U) .u64 hw .unk, .slice (U := U) .tree hc .unk, .slice (U := U) .edit hd .unk, .slice (U := U) .edit hg .unk])], []⟩ : LSt U) Q :=
  Eq.mpr (by kernel_rfl) (h _ (reEdit_eq _) _ (reTree_eq _))
def Body83 (hk : Int) (hw : List Int) (hc : List Tree) (hd : List Edit) (hg : List Edit) (e : Edit)  : Prop := awp cfg (know (know83)) (drawOk cfg (know (know83))) Tryz.f83.ntmps lv83 (cd Tryz.f83 []) (entry (args83.can ((hk, hw, hc, hd, hg, ()), e, ())) (args83.canX ((hk, hw, hc, hd, hg, ()), e, ()))) (EndsQ cfg Tryz.f83.ntmps Tryz.f83.results.toList (res83 ((hk, hw, hc, hd, hg, ()), e, ())) (resX83 ((hk, hw, hc, hd, hg, ()), e, ())))
theorem make83 (c25 : Contract Tryz.prog cfg 25 spec25) (c82 : Contract Tryz.prog cfg 82 spec82) (hb : ∀ (hk : Int) (hw : List Int) (hc : List Tree) (hd : List Edit) (hg : List Edit) (e : Edit) (_ : Unit), pre83 ((hk, hw, hc, hd, hg, ()), e, ()) → Body83 hk hw hc hd hg e) : Contract Tryz.prog cfg 83 spec83 :=
  contractX_flat (l := [(25, spec25), (82, spec82)]) cfgOk rfl (⟨c25, c82, trivial⟩) lv83 Tryz.func83 rfl rfl 2 (fun _ => rfl) (by decide) (fun ⟨⟨hk, hw, hc, hd, hg, _⟩, e, _⟩ => hb hk hw hc hd hg e ())
end Go.AM.YtpjenobkibfpcaaGreat

namespace Go.AM.YtpjenobkibfpcaaGreat
open Go.AM Go.Proofs
def args36 : ArgM ((Int × List Int × List Tree × List Edit × List Edit × Unit) × Edit × Unit) := (.obj 0 (.cons (cInt .i64) (.cons (cSl .u64) (.cons (cSl .tree) (.cons (cSl .edit) (.cons (cSl .edit) .nil))))) (.cons (aEl .edit) .nil))
def pre36 (a : (Int × List Int × List Tree × List Edit × List Edit × Unit) × Edit × Unit) : Prop := ((massE a.2.1 ≤ 18000000000 ∧ rngE a.2.1) ∧ (rightE a.2.1 64 = true → stepOk (nrmE a.2.1) (Tree.mk a.1.1 a.1.2.1 a.1.2.2.1))) ∧ (a.1.2.2.2.1).length ≤ 1000000000
noncomputable def res36 (a : (Int × List Int × List Tree × List Edit × List Edit × Unit) × Edit × Unit) : V U := .c (.int .i64 ((doN a.2.1 (Hist.mk (Tree.mk a.1.1 a.1.2.1 a.1.2.2.1) a.1.2.2.2.1 a.1.2.2.2.2.1)).2))
noncomputable def resX36 (a : (Int × List Int × List Tree × List Edit × List Edit × Unit) × Edit × Unit) : List (List (C U)) := [[.int .i64 (Tree.kind (Hist.now ((doN a.2.1 (Hist.mk (Tree.mk a.1.1 a.1.2.1 a.1.2.2.1) a.1.2.2.2.1 a.1.2.2.2.2.1)).1))), .slice (U := U) .u64 (Tree.words (Hist.now ((doN a.2.1 (Hist.mk (Tree.mk a.1.1 a.1.2.1 a.1.2.2.1) a.1.2.2.2.1 a.1.2.2.2.2.1)).1))) .unk, .slice (U := U) .tree (Tree.kids (Hist.now ((doN a.2.1 (Hist.mk (Tree.mk a.1.1 a.1.2.1 a.1.2.2.1) a.1.2.2.2.1 a.1.2.2.2.2.1)).1))) .unk, .slice (U := U) .edit (Hist.done ((doN a.2.1 (Hist.mk (Tree.mk a.1.1 a.1.2.1 a.1.2.2.1) a.1.2.2.2.1 a.1.2.2.2.2.1)).1)) .unk, .slice (U := U) .edit (Hist.gone ((doN a.2.1 (Hist.mk (Tree.mk a.1.1 a.1.2.1 a.1.2.2.1) a.1.2.2.2.1 a.1.2.2.2.2.1)).1)) .unk]]
noncomputable def spec36 : Fs U := fsX args36 (fun a => [pre36 a]) res36 resX36
def args37 : ArgM ((Int × List Int × List Tree × List Edit × List Edit × Unit) × Unit) := (.obj 0 (.cons (cInt .i64) (.cons (cSl .u64) (.cons (cSl .tree) (.cons (cSl .edit) (.cons (cSl .edit) .nil))))) .nil)
def pre37 (a : (Int × List Int × List Tree × List Edit × List Edit × Unit) × Unit) : Prop := (∀ e ∈ a.1.2.2.2.1, (massE e ≤ 20000000000 ∧ ∃ d, rightE e d = true) ∧ stepOk (nrmE (turnE e)) (Tree.mk a.1.1 a.1.2.1 a.1.2.2.1)) ∧ (a.1.2.2.2.1).length ≤ 1000000000 ∧ (a.1.2.2.2.2.1).length ≤ 1000000000
noncomputable def res37 (a : (Int × List Int × List Tree × List Edit × List Edit × Unit) × Unit) : V U := .c (.bool ((undoN (Hist.mk (Tree.mk a.1.1 a.1.2.1 a.1.2.2.1) a.1.2.2.2.1 a.1.2.2.2.2.1)).2))
noncomputable def resX37 (a : (Int × List Int × List Tree × List Edit × List Edit × Unit) × Unit) : List (List (C U)) := [[.int .i64 (Tree.kind (Hist.now ((undoN (Hist.mk (Tree.mk a.1.1 a.1.2.1 a.1.2.2.1) a.1.2.2.2.1 a.1.2.2.2.2.1)).1))), .slice (U := U) .u64 (Tree.words (Hist.now ((undoN (Hist.mk (Tree.mk a.1.1 a.1.2.1 a.1.2.2.1) a.1.2.2.2.1 a.1.2.2.2.2.1)).1))) .unk, .slice (U := U) .tree (Tree.kids (Hist.now ((undoN (Hist.mk (Tree.mk a.1.1 a.1.2.1 a.1.2.2.1) a.1.2.2.2.1 a.1.2.2.2.2.1)).1))) .unk, .slice (U := U) .edit (Hist.done ((undoN (Hist.mk (Tree.mk a.1.1 a.1.2.1 a.1.2.2.1) a.1.2.2.2.1 a.1.2.2.2.2.1)).1)) .unk, .slice (U := U) .edit (Hist.gone ((undoN (Hist.mk (Tree.mk a.1.1 a.1.2.1 a.1.2.2.1) a.1.2.2.2.1 a.1.2.2.2.2.1)).1)) .unk]]
noncomputable def spec37 : Fs U := fsX args37 (fun a => [pre37 a]) res37 resX37
def args38 : ArgM ((Int × List Int × List Tree × List Edit × List Edit × Unit) × Unit) := (.obj 0 (.cons (cInt .i64) (.cons (cSl .u64) (.cons (cSl .tree) (.cons (cSl .edit) (.cons (cSl .edit) .nil))))) .nil)
def pre38 (a : (Int × List Int × List Tree × List Edit × List Edit × Unit) × Unit) : Prop := (∀ e ∈ a.1.2.2.2.2.1, stepOk e (Tree.mk a.1.1 a.1.2.1 a.1.2.2.1)) ∧ (a.1.2.2.2.1).length ≤ 1000000000 ∧ (a.1.2.2.2.2.1).length ≤ 1000000000
noncomputable def res38 (a : (Int × List Int × List Tree × List Edit × List Edit × Unit) × Unit) : V U := .c (.bool ((redoN (Hist.mk (Tree.mk a.1.1 a.1.2.1 a.1.2.2.1) a.1.2.2.2.1 a.1.2.2.2.2.1)).2))
noncomputable def resX38 (a : (Int × List Int × List Tree × List Edit × List Edit × Unit) × Unit) : List (List (C U)) := [[.int .i64 (Tree.kind (Hist.now ((redoN (Hist.mk (Tree.mk a.1.1 a.1.2.1 a.1.2.2.1) a.1.2.2.2.1 a.1.2.2.2.2.1)).1))), .slice (U := U) .u64 (Tree.words (Hist.now ((redoN (Hist.mk (Tree.mk a.1.1 a.1.2.1 a.1.2.2.1) a.1.2.2.2.1 a.1.2.2.2.2.1)).1))) .unk, .slice (U := U) .tree (Tree.kids (Hist.now ((redoN (Hist.mk (Tree.mk a.1.1 a.1.2.1 a.1.2.2.1) a.1.2.2.2.1 a.1.2.2.2.2.1)).1))) .unk, .slice (U := U) .edit (Hist.done ((redoN (Hist.mk (Tree.mk a.1.1 a.1.2.1 a.1.2.2.1) a.1.2.2.2.1 a.1.2.2.2.2.1)).1)) .unk, .slice (U := U) .edit (Hist.gone ((redoN (Hist.mk (Tree.mk a.1.1 a.1.2.1 a.1.2.2.1) a.1.2.2.2.1 a.1.2.2.2.2.1)).1)) .unk]]
noncomputable def spec38 : Fs U := fsX args38 (fun a => [pre38 a]) res38 resX38
def args32 : ArgL (Unit) := .nil
def pre32 (a : Unit) : Prop := True
noncomputable def res32 (a : Unit) : V U := .c (.bool true)
noncomputable def spec32 : Fs U := fs args32 (fun a => [pre32 a]) res32
noncomputable def know36 : List (FuncId × Fs U) := [(28, spec28), (67, spec67), (83, spec83), (84, spec84)]
def lv36 : Lives U := fun i => match i with
  | 0 => ([(0, []), (3, [])], [((.loc 3), []), ((.x 0), [])])
  | 1 => ([(0, []), (3, []), (6, [])], [((.loc 3), []), ((.x 0), [])])
  | 2 => ([(4, [])], [((.x 0), [])])
  | 3 => ([(0, []), (3, []), (9, [])], [((.loc 3), []), ((.x 0), [])])
  | 4 => ([(4, [])], [((.x 0), [])])
  | 5 => ([(0, []), (3, [])], [((.loc 3), []), ((.x 0), [])])
  | 6 => ([(0, []), (3, []), (5, [])], [((.loc 3), []), ((.x 0), [])])
  | 7 => ([(0, []), (3, []), (5, []), (19, [])], [((.loc 3), []), ((.x 0), [])])
  | 8 => ([(4, [])], [((.x 0), [])])
  | 9 => ([], [((.x 0), [])])
  | 10 => ([(4, [])], [((.x 0), [])])
  | _ => ([], [])
noncomputable abbrev A36 (p : List Nat) := awp cfg (know know36) (drawOk cfg (know know36)) Tryz.f36.ntmps lv36 (cd Tryz.f36 p)
theorem vc36 (hk : Int) (hw : List Int) (hc : List Tree) (hd : List Edit) (hg : List Edit) (e : Edit) (Q : AExit → LSt U → Prop) (h : ∀ y_1, y_1 = (e) → ∀ y_2, y_2 = ((nrmE y_1)) → ((((false) = true → (Q .ret (⟨[(4, .c (.int .i64 1))], [((.x 0), [.int .i64 hk, .slice (U := U) .u64 hw .unk, .slice (U := U) .tree hc .unk, .slice (U := U) .edit hd .unk, .slice (U := U) .edit hg .unk])], []⟩ : LSt U))) ∧ ((false) = false → (pre28 (y_1, ())) ∧ (((!(rightE y_1 64)) = true → (Q .ret (⟨[(4, .c (.int .i64 2))], [((.x 0), [.int .i64 hk, .slice (U := U) .u64 hw .unk, .slice (U := U) .tree hc .unk, .slice (U := U) .edit hd .unk, .slice (U := U) .edit hg .unk])], []⟩ : LSt U))) ∧ ((!(rightE y_1 64)) = false → (pre67 (y_1, ())) ∧ ((pre83 ((hk, hw, hc, hd, hg, ()), y_2, ())) ∧ (((((((stepN y_2 (Tree.mk hk hw hc)).2) : Int) != 0) = true → (Q .ret (⟨[(4, .c (.int .i64 ((stepN y_2 (Tree.mk hk hw hc)).2)))], [((.x 0), [.int .i64 (Tree.kind ((stepN y_2 (Tree.mk hk hw hc)).1)), .slice (U := U) .u64 (Tree.words ((stepN y_2 (Tree.mk hk hw hc)).1)) .unk, .slice (U := U) .tree (Tree.kids ((stepN y_2 (Tree.mk hk hw hc)).1)) .unk, .slice (U := U) .edit hd .unk, .slice (U := U) .edit hg .unk])], []⟩ : LSt U))) ∧ (((((stepN y_2 (Tree.mk hk hw hc)).2) : Int) != 0) = false → (pre84 (hd, ())) ∧ ((hd.length + ([y_2]).length) * 200 ≤ 140737488355328) ∧ ((Q .ret (⟨[(4, .c (.int .i64 0))], [((.x 0), [.int .i64 (Tree.kind ((stepN y_2 (Tree.mk hk hw hc)).1)), .slice (U := U) .u64 (Tree.words ((stepN y_2 (Tree.mk hk hw hc)).1)) .unk, .slice (U := U) .tree (Tree.kids ((stepN y_2 (Tree.mk hk hw hc)).1)) .unk, .slice (U := U) .edit (hd ++ ([y_2])) (.own (.x 0 3)), .nils])], []⟩ : LSt U))))))))))))) :
    A36 [] (⟨[(0, .ptr (.x 0) 0), (1, .agg [.int .i64 (Edit.kind e), .int .i64 (Tree.kind (Edit.old e)), .slice (U := U) .u64 (Tree.words (Edit.old e)) .unk, .slice (U := U) .tree (Tree.kids (Edit.old e)) .unk, .int .i64 (Tree.kind (Edit.new e)), .slice (U := U) .u64 (Tree.words (Edit.new e)) .unk, .slice (U := U) .tree (Tree.kids (Edit.new e)) .unk, .slice (U := U) .wedit (Edit.words e) .unk, .slice (U := U) .kid (Edit.kids e) .unk, .int .i64 (Edit.list e), .slice (U := U) .op (Edit.ops e) .unk])], [((.x 0), [.int .i64 hk, .slice (U := U) .u64 hw .unk, .slice (U := U) .tree hc .unk, .slice (U := U) .edit hd .unk, .slice (U := U) .edit hg .unk])], []⟩ : LSt U) Q :=
  Eq.mpr (by kernel_rfl) (h _ (reEdit_eq _) _ (reEdit_eq _))
def Body36 (hk : Int) (hw : List Int) (hc : List Tree) (hd : List Edit) (hg : List Edit) (e : Edit)  : Prop := awp cfg (know (know36)) (drawOk cfg (know (know36))) Tryz.f36.ntmps lv36 (cd Tryz.f36 []) (entry (args36.can ((hk, hw, hc, hd, hg, ()), e, ())) (args36.canX ((hk, hw, hc, hd, hg, ()), e, ()))) (EndsQ cfg Tryz.f36.ntmps Tryz.f36.results.toList (res36 ((hk, hw, hc, hd, hg, ()), e, ())) (resX36 ((hk, hw, hc, hd, hg, ()), e, ())))
theorem make36 (c28 : Contract Tryz.prog cfg 28 spec28) (c67 : Contract Tryz.prog cfg 67 spec67) (c83 : Contract Tryz.prog cfg 83 spec83) (c84 : Contract Tryz.prog cfg 84 spec84) (hb : ∀ (hk : Int) (hw : List Int) (hc : List Tree) (hd : List Edit) (hg : List Edit) (e : Edit) (_ : Unit), pre36 ((hk, hw, hc, hd, hg, ()), e, ()) → Body36 hk hw hc hd hg e) : Contract Tryz.prog cfg 36 spec36 :=
  contractX_flat (l := [(28, spec28), (67, spec67), (83, spec83), (84, spec84)]) cfgOk rfl (⟨c28, c67, c83, c84, trivial⟩) lv36 Tryz.func36 rfl rfl 2 (fun _ => rfl) (by decide) (fun ⟨⟨hk, hw, hc, hd, hg, _⟩, e, _⟩ => hb hk hw hc hd hg e ())
noncomputable def know37 : List (FuncId × Fs U) := [(83, spec83), (84, spec84), (85, spec85)]
def lv37 : Lives U := fun i => match i with
  | 0 => ([(0, [])], [((.x 0), [])])
  | 1 => ([(0, []), (14, [])], [((.x 0), [])])
  | 2 => ([(2, [])], [((.x 0), [])])
  | 3 => ([(0, []), (3, [])], [((.x 0), [])])
  | 4 => ([(0, []), (3, []), (4, [])], [((.loc 4), []), ((.x 0), [])])
  | 5 => ([(0, []), (3, []), (4, []), (32, [])], [((.loc 4), []), ((.x 0), [])])
  | 6 => ([(2, [])], [((.x 0), [])])
  | 7 => ([], [((.x 0), [])])
  | 8 => ([(2, [])], [((.x 0), [])])
  | _ => ([], [])
noncomputable abbrev A37 (p : List Nat) := awp cfg (know know37) (drawOk cfg (know know37)) Tryz.f37.ntmps lv37 (cd Tryz.f37 p)
theorem vc37 (hk : Int) (hw : List Int) (hc : List Tree) (hd : List Edit) (hg : List Edit) (Q : AExit → LSt U → Prop) (h : ∀ y_1, y_1 = (List.getD hd (Int.toNat (((hd.length : Int) : Int) - 1)) Edit.nil) → ∀ y_2, y_2 = (y_1) → ∀ y_3, y_3 = ((nrmE (turnE y_2))) → ((Tr ((!false) = true)) ∧ (Tr ((!false) = true)) ∧ (Tr ((!false) = true)) ∧ (Tr ((!false) = true)) ∧ (Tr ((!false) = true)) ∧ (((false) = false → (!false) = true)) ∧ (((bif false then true else (((hd.length : Int) : Int) == 0)) = true → (Q .ret (⟨[(2, .c (.bool false))], [((.x 0), [.int .i64 hk, .slice (U := U) .u64 hw .unk, .slice (U := U) .tree hc .unk, .slice (U := U) .edit hd .unk, .slice (U := U) .edit hg .unk])], []⟩ : LSt U))) ∧ ((bif false then true else (((hd.length : Int) : Int) == 0)) = false → (InR (((hd.length : Int) : Int) - 1)) ∧ (((0 : Int) ≤ (((hd.length : Int) : Int) - 1) ∧ (((hd.length : Int) : Int) - 1) < (hd.length : Int)) ∧ ((pre85 (y_2, ())) ∧ (pre83 ((hk, hw, hc, hd, hg, ()), y_3, ())) ∧ ((((((stepN y_3 (Tree.mk hk hw hc)).2) : Int) != 0) = true → (Q .ret (⟨[(2, .c (.bool false))], [((.x 0), [.int .i64 (Tree.kind ((stepN y_3 (Tree.mk hk hw hc)).1)), .slice (U := U) .u64 (Tree.words ((stepN y_3 (Tree.mk hk hw hc)).1)) .unk, .slice (U := U) .tree (Tree.kids ((stepN y_3 (Tree.mk hk hw hc)).1)) .unk, .slice (U := U) .edit hd .unk, .slice (U := U) .edit hg .unk])], []⟩ : LSt U))) ∧ (((((stepN y_3 (Tree.mk hk hw hc)).2) : Int) != 0) = false → ((0 : Int) ≤ (((hd.length : Int) : Int) - 1) ∧ (((hd.length : Int) : Int) - 1) ≤ (hd.length : Int)) ∧ ((((hd.length : Int) : Int) - 1) = (((hd.length : Int) : Int) - 1)) ∧ (pre84 (hg, ())) ∧ ((hg.length + ([y_2]).length) * 200 ≤ 140737488355328) ∧ ((Q .ret (⟨[(2, .c (.bool true))], [((.x 0), [.int .i64 (Tree.kind ((stepN y_3 (Tree.mk hk hw hc)).1)), .slice (U := U) .u64 (Tree.words ((stepN y_3 (Tree.mk hk hw hc)).1)) .unk, .slice (U := U) .tree (Tree.kids ((stepN y_3 (Tree.mk hk hw hc)).1)) .unk, .slice (U := U) .edit (List.take (Int.toNat (((hd.length : Int) : Int) - 1)) hd) .full, .slice (U := U) .edit (hg ++ ([y_2])) (.own (.x 0 4))])], []⟩ : LSt U))))))))))) :
    A37 [] (⟨[(0, .ptr (.x 0) 0)], [((.x 0), [.int .i64 hk, .slice (U := U) .u64 hw .unk, .slice (U := U) .tree hc .unk, .slice (U := U) .edit hd .unk, .slice (U := U) .edit hg .unk])], []⟩ : LSt U) Q :=
  Eq.mpr (by kernel_rfl) (h _ rfl _ (reEdit_eq _) _ (reEdit_eq _))
def Body37 (hk : Int) (hw : List Int) (hc : List Tree) (hd : List Edit) (hg : List Edit)  : Prop := awp cfg (know (know37)) (drawOk cfg (know (know37))) Tryz.f37.ntmps lv37 (cd Tryz.f37 []) (entry (args37.can ((hk, hw, hc, hd, hg, ()), ())) (args37.canX ((hk, hw, hc, hd, hg, ()), ()))) (EndsQ cfg Tryz.f37.ntmps Tryz.f37.results.toList (res37 ((hk, hw, hc, hd, hg, ()), ())) (resX37 ((hk, hw, hc, hd, hg, ()), ())))
theorem make37 (c83 : Contract Tryz.prog cfg 83 spec83) (c84 : Contract Tryz.prog cfg 84 spec84) (c85 : Contract Tryz.prog cfg 85 spec85) (hb : ∀ (hk : Int) (hw : List Int) (hc : List Tree) (hd : List Edit) (hg : List Edit) (_ : Unit), pre37 ((hk, hw, hc, hd, hg, ()), ()) → Body37 hk hw hc hd hg) : Contract Tryz.prog cfg 37 spec37 :=
  contractX_flat (l := [(83, spec83), (84, spec84), (85, spec85)]) cfgOk rfl (⟨c83, c84, c85, trivial⟩) lv37 Tryz.func37 rfl rfl 1 (fun _ => rfl) (by decide) (fun ⟨⟨hk, hw, hc, hd, hg, _⟩, _⟩ => hb hk hw hc hd hg ())
noncomputable def know38 : List (FuncId × Fs U) := [(83, spec83), (84, spec84)]
def lv38 : Lives U := fun i => match i with
  | 0 => ([(0, [])], [((.x 0), [])])
  | 1 => ([(0, []), (14, [])], [((.x 0), [])])
  | 2 => ([(2, [])], [((.x 0), [])])
  | 3 => ([(0, []), (3, [])], [((.x 0), [])])
  | 4 => ([(0, []), (3, []), (4, [])], [((.loc 4), []), ((.x 0), [])])
  | 5 => ([(0, []), (3, []), (4, []), (31, [])], [((.loc 4), []), ((.x 0), [])])
  | 6 => ([(2, [])], [((.x 0), [])])
  | 7 => ([], [((.x 0), [])])
  | 8 => ([(2, [])], [((.x 0), [])])
  | _ => ([], [])
noncomputable abbrev A38 (p : List Nat) := awp cfg (know know38) (drawOk cfg (know know38)) Tryz.f38.ntmps lv38 (cd Tryz.f38 p)
theorem vc38 (hk : Int) (hw : List Int) (hc : List Tree) (hd : List Edit) (hg : List Edit) (Q : AExit → LSt U → Prop) (h : ∀ y_1, y_1 = (List.getD hg (Int.toNat (((hg.length : Int) : Int) - 1)) Edit.nil) → ∀ y_2, y_2 = (y_1) → ((Tr ((!false) = true)) ∧ (Tr ((!false) = true)) ∧ (Tr ((!false) = true)) ∧ (Tr ((!false) = true)) ∧ (Tr ((!false) = true)) ∧ (((false) = false → (!false) = true)) ∧ (((bif false then true else (((hg.length : Int) : Int) == 0)) = true → (Q .ret (⟨[(2, .c (.bool false))], [((.x 0), [.int .i64 hk, .slice (U := U) .u64 hw .unk, .slice (U := U) .tree hc .unk, .slice (U := U) .edit hd .unk, .slice (U := U) .edit hg .unk])], []⟩ : LSt U))) ∧ ((bif false then true else (((hg.length : Int) : Int) == 0)) = false → (InR (((hg.length : Int) : Int) - 1)) ∧ (((0 : Int) ≤ (((hg.length : Int) : Int) - 1) ∧ (((hg.length : Int) : Int) - 1) < (hg.length : Int)) ∧ ((pre83 ((hk, hw, hc, hd, hg, ()), y_2, ())) ∧ ((((((stepN y_2 (Tree.mk hk hw hc)).2) : Int) != 0) = true → (Q .ret (⟨[(2, .c (.bool false))], [((.x 0), [.int .i64 (Tree.kind ((stepN y_2 (Tree.mk hk hw hc)).1)), .slice (U := U) .u64 (Tree.words ((stepN y_2 (Tree.mk hk hw hc)).1)) .unk, .slice (U := U) .tree (Tree.kids ((stepN y_2 (Tree.mk hk hw hc)).1)) .unk, .slice (U := U) .edit hd .unk, .slice (U := U) .edit hg .unk])], []⟩ : LSt U))) ∧ (((((stepN y_2 (Tree.mk hk hw hc)).2) : Int) != 0) = false → (pre84 (hd, ())) ∧ ((hd.length + ([y_2]).length) * 200 ≤ 140737488355328) ∧ ((0 : Int) ≤ (((hg.length : Int) : Int) - 1) ∧ (((hg.length : Int) : Int) - 1) ≤ (hg.length : Int)) ∧ ((((hg.length : Int) : Int) - 1) = (((hg.length : Int) : Int) - 1)) ∧ ((Q .ret (⟨[(2, .c (.bool true))], [((.x 0), [.int .i64 (Tree.kind ((stepN y_2 (Tree.mk hk hw hc)).1)), .slice (U := U) .u64 (Tree.words ((stepN y_2 (Tree.mk hk hw hc)).1)) .unk, .slice (U := U) .tree (Tree.kids ((stepN y_2 (Tree.mk hk hw hc)).1)) .unk, .slice (U := U) .edit (hd ++ ([y_2])) (.own (.x 0 3)), .slice (U := U) .edit (List.take (Int.toNat (((hg.length : Int) : Int) - 1)) hg) .full])], []⟩ : LSt U))))))))))) :
    A38 [] (⟨[(0, .ptr (.x 0) 0)], [((.x 0), [.int .i64 hk, .slice (U := U) .u64 hw .unk, .slice (U := U) .tree hc .unk, .slice (U := U) .edit hd .unk, .slice (U := U) .edit hg .unk])], []⟩ : LSt U) Q :=
  Eq.mpr (by kernel_rfl) (h _ rfl _ (reEdit_eq _))
def Body38 (hk : Int) (hw : List Int) (hc : List Tree) (hd : List Edit) (hg : List Edit)  : Prop := awp cfg (know (know38)) (drawOk cfg (know (know38))) Tryz.f38.ntmps lv38 (cd Tryz.f38 []) (entry (args38.can ((hk, hw, hc, hd, hg, ()), ())) (args38.canX ((hk, hw, hc, hd, hg, ()), ()))) (EndsQ cfg Tryz.f38.ntmps Tryz.f38.results.toList (res38 ((hk, hw, hc, hd, hg, ()), ())) (resX38 ((hk, hw, hc, hd, hg, ()), ())))
theorem make38 (c83 : Contract Tryz.prog cfg 83 spec83) (c84 : Contract Tryz.prog cfg 84 spec84) (hb : ∀ (hk : Int) (hw : List Int) (hc : List Tree) (hd : List Edit) (hg : List Edit) (_ : Unit), pre38 ((hk, hw, hc, hd, hg, ()), ()) → Body38 hk hw hc hd hg) : Contract Tryz.prog cfg 38 spec38 :=
  contractX_flat (l := [(83, spec83), (84, spec84)]) cfgOk rfl (⟨c83, c84, trivial⟩) lv38 Tryz.func38 rfl rfl 1 (fun _ => rfl) (by decide) (fun ⟨⟨hk, hw, hc, hd, hg, _⟩, _⟩ => hb hk hw hc hd hg ())
noncomputable def know32 : List (FuncId × Fs U) := [(33, spec33), (35, spec35), (36, spec36), (37, spec37), (38, spec38)]
def lv32 : Lives U := fun i => match i with
  | 0 => ([], [])
  | 1 => ([(1, [])], [((.loc 9), [])])
  | 2 => ([(1, []), (2, [])], [((.loc 9), [])])
  | 3 => ([(1, []), (2, []), (3, [])], [((.loc 9), [])])
  | 4 => ([(1, []), (2, []), (3, []), (4, [])], [((.loc 4), []), ((.loc 9), [])])
  | 5 => ([(1, []), (2, []), (3, []), (4, []), (5, [])], [((.loc 4), []), ((.loc 9), [])])
  | 6 => ([(2, []), (3, []), (4, []), (5, []), (6, [])], [((.loc 4), []), ((.loc 6), [])])
  | 7 => ([(0, [])], [])
  | _ => ([], [])
noncomputable abbrev A32 (p : List Nat) := awp cfg (know know32) (drawOk cfg (know know32)) Tryz.f32.ntmps lv32 (cd Tryz.f32 p)
theorem vc32 (Q : AExit → LSt U → Prop) (h : ∀ y_1, y_1 = ((normT (Tree.mk 1 ([1]) ([])))) → ∀ y_2, y_2 = (Edit.mk 2 (Tree.mk 0 ([]) ([])) (Tree.mk 0 ([]) ([])) ([(WEdit.mk 0 1 1 2)]) ([]) 0 ([])) → ∀ y_3, y_3 = (Hist.now ((doN y_2 (Hist.mk y_1 ([] : List Edit) ([] : List Edit))).1)) → ∀ y_4, y_4 = (Hist.done ((doN y_2 (Hist.mk y_1 ([] : List Edit) ([] : List Edit))).1)) → ∀ y_5, y_5 = (Hist.gone ((doN y_2 (Hist.mk y_1 ([] : List Edit) ([] : List Edit))).1)) → ∀ y_6, y_6 = (y_3) → ∀ y_7, y_7 = ((Hist.now ((undoN (Hist.mk y_6 y_4 y_5)).1))) → ∀ y_8, y_8 = ((y_7)) → ∀ y_9, y_9 = (List.getD (Tree.words y_7) (Int.toNat 0) (0 : Int)) → ∀ y_10, y_10 = (Hist.mk y_8 (Hist.done ((undoN (Hist.mk y_6 y_4 y_5)).1)) (Hist.gone ((undoN (Hist.mk y_6 y_4 y_5)).1))) → ∀ y_11, y_11 = ((Hist.now ((redoN y_10).1))) → ((pre33 ((Tree.mk 1 ([1]) ([])), ())) ∧ ((pre36 (((Tree.kind (normT (Tree.mk 1 ([1]) ([])))), (Tree.words (normT (Tree.mk 1 ([1]) ([])))), (Tree.kids (normT (Tree.mk 1 ([1]) ([])))), ([] : List Edit), ([] : List Edit), ()), y_2, ())) ∧ ((pre37 (((Tree.kind y_3), (Tree.words y_3), (Tree.kids y_3), y_4, y_5, ()), ())) ∧ ((pre35 (((Tree.kind (Hist.now ((undoN (Hist.mk y_6 y_4 y_5)).1))), (Tree.words (Hist.now ((undoN (Hist.mk y_6 y_4 y_5)).1))), (Tree.kids (Hist.now ((undoN (Hist.mk y_6 y_4 y_5)).1))), (Hist.done ((undoN (Hist.mk y_6 y_4 y_5)).1)), (Hist.gone ((undoN (Hist.mk y_6 y_4 y_5)).1)), ()), ())) ∧ ((pre38 (((Tree.kind (y_7)), (Tree.words (y_7)), (Tree.kids (y_7)), (Hist.done ((undoN (Hist.mk y_6 y_4 y_5)).1)), (Hist.gone ((undoN (Hist.mk y_6 y_4 y_5)).1)), ()), ())) ∧ ((pre35 (((Tree.kind (Hist.now ((redoN y_10).1))), (Tree.words (Hist.now ((redoN y_10).1))), (Tree.kids (Hist.now ((redoN y_10).1))), (Hist.done ((redoN y_10).1)), (Hist.gone ((redoN y_10).1)), ()), ())) ∧ (((Tr (((((doN y_2 (Hist.mk y_1 ([] : List Edit) ([] : List Edit))).2) : Int) == 0) = true))) ∧ ((Tr ((bif ((((doN y_2 (Hist.mk y_1 ([] : List Edit) ([] : List Edit))).2) : Int) == 0) then ((undoN (Hist.mk y_6 y_4 y_5)).2) else false) = true))) ∧ (Tr ((bif (bif ((((doN y_2 (Hist.mk y_1 ([] : List Edit) ([] : List Edit))).2) : Int) == 0) then ((undoN (Hist.mk y_6 y_4 y_5)).2) else false) then ((redoN y_10).2) else false) = true)) ∧ (Tr ((bif (bif ((((doN y_2 (Hist.mk y_1 ([] : List Edit) ([] : List Edit))).2) : Int) == 0) then ((undoN (Hist.mk y_6 y_4 y_5)).2) else false) then ((redoN y_10).2) else false) = true)) ∧ (Tr ((bif (bif ((((doN y_2 (Hist.mk y_1 ([] : List Edit) ([] : List Edit))).2) : Int) == 0) then ((undoN (Hist.mk y_6 y_4 y_5)).2) else false) then ((redoN y_10).2) else false) = true)) ∧ ((Tr ((bif (bif ((((doN y_2 (Hist.mk y_1 ([] : List Edit) ([] : List Edit))).2) : Int) == 0) then ((undoN (Hist.mk y_6 y_4 y_5)).2) else false) then ((redoN y_10).2) else false) = true))) ∧ (Tr ((bif (bif (bif ((((doN y_2 (Hist.mk y_1 ([] : List Edit) ([] : List Edit))).2) : Int) == 0) then ((undoN (Hist.mk y_6 y_4 y_5)).2) else false) then ((redoN y_10).2) else false) then ((((Tree.words y_7).length : Int) : Int) == 1) else false) = true)) ∧ (Tr ((bif (bif (bif ((((doN y_2 (Hist.mk y_1 ([] : List Edit) ([] : List Edit))).2) : Int) == 0) then ((undoN (Hist.mk y_6 y_4 y_5)).2) else false) then ((redoN y_10).2) else false) then ((((Tree.words y_7).length : Int) : Int) == 1) else false) = true)) ∧ ((bif (bif (bif ((((doN y_2 (Hist.mk y_1 ([] : List Edit) ([] : List Edit))).2) : Int) == 0) then ((undoN (Hist.mk y_6 y_4 y_5)).2) else false) then ((redoN y_10).2) else false) then ((((Tree.words y_7).length : Int) : Int) == 1) else false) = true → (0 : Int) ≤ 0 ∧ 0 < ((Tree.words y_7).length : Int)) ∧ (Tr ((bif (bif (bif ((((doN y_2 (Hist.mk y_1 ([] : List Edit) ([] : List Edit))).2) : Int) == 0) then ((undoN (Hist.mk y_6 y_4 y_5)).2) else false) then ((redoN y_10).2) else false) then ((((Tree.words y_7).length : Int) : Int) == 1) else false) = true)) ∧ (Tr ((bif (bif (bif ((((doN y_2 (Hist.mk y_1 ([] : List Edit) ([] : List Edit))).2) : Int) == 0) then ((undoN (Hist.mk y_6 y_4 y_5)).2) else false) then ((redoN y_10).2) else false) then ((((Tree.words y_7).length : Int) : Int) == 1) else false) = true)) ∧ ((Tr ((bif (bif (bif ((((doN y_2 (Hist.mk y_1 ([] : List Edit) ([] : List Edit))).2) : Int) == 0) then ((undoN (Hist.mk y_6 y_4 y_5)).2) else false) then ((redoN y_10).2) else false) then ((((Tree.words y_7).length : Int) : Int) == 1) else false) = true))) ∧ (Tr ((bif (bif (bif (bif ((((doN y_2 (Hist.mk y_1 ([] : List Edit) ([] : List Edit))).2) : Int) == 0) then ((undoN (Hist.mk y_6 y_4 y_5)).2) else false) then ((redoN y_10).2) else false) then ((((Tree.words y_7).length : Int) : Int) == 1) else false) then ((y_9 : Int) == 1) else false) = true)) ∧ (Tr ((bif (bif (bif (bif ((((doN y_2 (Hist.mk y_1 ([] : List Edit) ([] : List Edit))).2) : Int) == 0) then ((undoN (Hist.mk y_6 y_4 y_5)).2) else false) then ((redoN y_10).2) else false) then ((((Tree.words y_7).length : Int) : Int) == 1) else false) then ((y_9 : Int) == 1) else false) = true)) ∧ (Tr ((bif (bif (bif (bif ((((doN y_2 (Hist.mk y_1 ([] : List Edit) ([] : List Edit))).2) : Int) == 0) then ((undoN (Hist.mk y_6 y_4 y_5)).2) else false) then ((redoN y_10).2) else false) then ((((Tree.words y_7).length : Int) : Int) == 1) else false) then ((y_9 : Int) == 1) else false) = true)) ∧ ((Tr ((bif (bif (bif (bif ((((doN y_2 (Hist.mk y_1 ([] : List Edit) ([] : List Edit))).2) : Int) == 0) then ((undoN (Hist.mk y_6 y_4 y_5)).2) else false) then ((redoN y_10).2) else false) then ((((Tree.words y_7).length : Int) : Int) == 1) else false) then ((y_9 : Int) == 1) else false) = true))) ∧ (Tr ((bif (bif (bif (bif (bif ((((doN y_2 (Hist.mk y_1 ([] : List Edit) ([] : List Edit))).2) : Int) == 0) then ((undoN (Hist.mk y_6 y_4 y_5)).2) else false) then ((redoN y_10).2) else false) then ((((Tree.words y_7).length : Int) : Int) == 1) else false) then ((y_9 : Int) == 1) else false) then ((((Tree.words y_11).length : Int) : Int) == 1) else false) = true)) ∧ (Tr ((bif (bif (bif (bif (bif ((((doN y_2 (Hist.mk y_1 ([] : List Edit) ([] : List Edit))).2) : Int) == 0) then ((undoN (Hist.mk y_6 y_4 y_5)).2) else false) then ((redoN y_10).2) else false) then ((((Tree.words y_7).length : Int) : Int) == 1) else false) then ((y_9 : Int) == 1) else false) then ((((Tree.words y_11).length : Int) : Int) == 1) else false) = true)) ∧ ((bif (bif (bif (bif (bif ((((doN y_2 (Hist.mk y_1 ([] : List Edit) ([] : List Edit))).2) : Int) == 0) then ((undoN (Hist.mk y_6 y_4 y_5)).2) else false) then ((redoN y_10).2) else false) then ((((Tree.words y_7).length : Int) : Int) == 1) else false) then ((y_9 : Int) == 1) else false) then ((((Tree.words y_11).length : Int) : Int) == 1) else false) = true → (0 : Int) ≤ 0 ∧ 0 < ((Tree.words y_11).length : Int)) ∧ (Tr ((bif (bif (bif (bif (bif ((((doN y_2 (Hist.mk y_1 ([] : List Edit) ([] : List Edit))).2) : Int) == 0) then ((undoN (Hist.mk y_6 y_4 y_5)).2) else false) then ((redoN y_10).2) else false) then ((((Tree.words y_7).length : Int) : Int) == 1) else false) then ((y_9 : Int) == 1) else false) then ((((Tree.words y_11).length : Int) : Int) == 1) else false) = true)) ∧ (Tr ((bif (bif (bif (bif (bif ((((doN y_2 (Hist.mk y_1 ([] : List Edit) ([] : List Edit))).2) : Int) == 0) then ((undoN (Hist.mk y_6 y_4 y_5)).2) else false) then ((redoN y_10).2) else false) then ((((Tree.words y_7).length : Int) : Int) == 1) else false) then ((y_9 : Int) == 1) else false) then ((((Tree.words y_11).length : Int) : Int) == 1) else false) = true)) ∧ ((Tr ((bif (bif (bif (bif (bif ((((doN y_2 (Hist.mk y_1 ([] : List Edit) ([] : List Edit))).2) : Int) == 0) then ((undoN (Hist.mk y_6 y_4 y_5)).2) else false) then ((redoN y_10).2) else false) then ((((Tree.words y_7).length : Int) : Int) == 1) else false) then ((y_9 : Int) == 1) else false) then ((((Tree.words y_11).length : Int) : Int) == 1) else false) = true))) ∧ (Q .ret (⟨[(0, .c (.bool (bif (bif (bif (bif (bif (bif ((((doN y_2 (Hist.mk y_1 ([] : List Edit) ([] : List Edit))).2) : Int) == 0) then ((undoN (Hist.mk y_6 y_4 y_5)).2) else false) then ((redoN y_10).2) else false) then ((((Tree.words y_7).length : Int) : Int) == 1) else false) then ((y_9 : Int) == 1) else false) then ((((Tree.words y_11).length : Int) : Int) == 1) else false) then (((List.getD (Tree.words y_11) (Int.toNat 0) (0 : Int)) : Int) == 2) else false)))], [], []⟩ : LSt U)))))))))) :
    A32 [] (⟨[], [], []⟩ : LSt U) Q :=
  Eq.mpr (by kernel_rfl) (h _ (reTree_eq _) _ rfl _ rfl _ rfl _ rfl _ (reTree_eq _) _ (reTree_eq _) _ (reTree_eq _) _ rfl _ rfl _ (reTree_eq _))
def Body32  : Prop := awp cfg (know (know32)) (drawOk cfg (know (know32))) Tryz.f32.ntmps lv32 (cd Tryz.f32 []) (entry (args32.can (())) []) (EndsQ cfg Tryz.f32.ntmps Tryz.f32.results.toList (res32 (())) [])
theorem make32 (c33 : Contract Tryz.prog cfg 33 spec33) (c35 : Contract Tryz.prog cfg 35 spec35) (c36 : Contract Tryz.prog cfg 36 spec36) (c37 : Contract Tryz.prog cfg 37 spec37) (c38 : Contract Tryz.prog cfg 38 spec38) (hb : ∀ (_ : Unit), pre32 (()) → Body32 ) : Contract Tryz.prog cfg 32 spec32 :=
  contract_flat (l := [(33, spec33), (35, spec35), (36, spec36), (37, spec37), (38, spec38)]) cfgOk rfl (⟨c33, c35, c36, c37, c38, trivial⟩) lv32 Tryz.func32 rfl rfl 0 (fun _ => rfl) (by decide) (fun _ => hb  ())
end Go.AM.YtpjenobkibfpcaaGreat
