import Derived.Test.YtpjenobkibfpcaaKG20a
import Derived.Test.YtpjenobkibfpcaaCmY
set_option linter.unusedSimpArgs false
set_option linter.unusedVariables false
namespace Go.AM.Ytpjenobkibfpcaa
open Go.AM Go.Proofs
def args23 : ArgL (Edit × Int × Unit) := (.cons (aEl .edit) (.cons (aInt .i64) .nil))
def pre23 (a : Edit × Int × Unit) : Prop := (massE a.1 ≤ 20000000000 ∧ rngE a.1) ∧ 0 ≤ a.2.1 ∧ a.2.1 ≤ 1000
def mu23 (a : Edit × Int × Unit) : Nat := 2 * massE a.1
noncomputable def res23 (a : Edit × Int × Unit) : V U := .c (.bool (rightE a.1 a.2.1))
noncomputable def spec23 : Fs U := fs args23 (fun a => [pre23 a]) res23
def args64 : ArgL (Int × Op × Int × Unit) := (.cons (aInt .i64) (.cons (aEl .op) (.cons (aInt .i64) .nil)))
def pre64 (a : Int × Op × Int × Unit) : Prop := (massOp a.2.1 ≤ 20000000000 ∧ rngOp a.2.1 ∧ isI a.1) ∧ 0 ≤ a.2.2.1 ∧ a.2.2.1 ≤ 1000
def mu64 (a : Int × Op × Int × Unit) : Nat := 2 * massOp a.2.1 + 1
noncomputable def res64 (a : Int × Op × Int × Unit) : V U := .c (.bool (rightOp a.1 a.2.1 a.2.2.1))
noncomputable def spec64 : Fs U := fs args64 (fun a => [pre64 a]) res64
def args55 : ArgL (Edit × Unit) := (.cons (aEl .edit) .nil)
def pre55 (a : Edit × Unit) : Prop := (massE a.1 ≤ 20000000000 ∧ rngE a.1) ∧ ∃ d, rightE a.1 d = true
def mu55 (a : Edit × Unit) : Nat := massE a.1
noncomputable def res55 (a : Edit × Unit) : V U := .c (.bool (lightE a.1))
noncomputable def spec55 : Fs U := fs args55 (fun a => [pre55 a]) res55
def args15 : ArgL (Edit × Unit) := (.cons (aEl .edit) .nil)
def pre15 (a : Edit × Unit) : Prop := smallE a.1 ∧ rngE a.1
noncomputable def res15 (a : Edit × Unit) : V U := .c (.bool (good a.1))
noncomputable def spec15 : Fs U := fs args15 (fun a => [pre15 a]) res15
noncomputable def know23 (N : Nat) : List (FuncId × Fs U) := (23, fs args23 (fun a => [pre23 a, mu23 a < N]) res23) :: (64, fs args64 (fun a => [pre64 a, mu64 a < N]) res64) :: [(62, spec62), (63, spec63), (104, spec104), (37, spec37), (65, spec65)]
def lv23 : Lives U := fun i => match i with
  | 0 => ([(1, []), (2, [])], [((.loc 2), [])])
  | 1 => ([(1, []), (2, []), (24, [])], [((.loc 2), [])])
  | 2 => ([(4, [])], [])
  | 3 => ([(1, []), (2, []), (69, [])], [((.loc 2), [])])
  | 4 => ([(4, [])], [])
  | 5 => ([(1, []), (2, []), (72, [])], [((.loc 2), [])])
  | 6 => ([(4, [])], [])
  | 7 => ([(1, []), (2, []), (5, [])], [((.loc 2), [])])
  | 8 => ([(1, []), (2, []), (5, []), (6, [])], [((.loc 2), [])])
  | 9 => ([(1, []), (2, []), (5, []), (6, []), (97, [])], [((.loc 2), [])])
  | 10 => ([(1, []), (2, []), (5, []), (6, [])], [((.loc 2), [])])
  | 11 => ([(1, []), (2, []), (5, []), (6, []), (7, [])], [((.loc 2), []), ((.loc 7), [])])
  | 12 => ([(1, []), (2, []), (6, []), (7, []), (134, [])], [((.loc 2), []), ((.loc 7), [])])
  | 13 => ([(4, [])], [])
  | 14 => ([(1, []), (2, []), (5, []), (6, [])], [((.loc 2), [])])
  | 15 => ([(1, []), (2, []), (5, [])], [((.loc 2), [])])
  | 16 => ([(1, []), (2, []), (5, []), (8, [])], [((.loc 2), [])])
  | 17 => ([(1, []), (2, []), (5, []), (8, []), (141, [])], [((.loc 2), [])])
  | 18 => ([(1, []), (2, []), (5, []), (8, [])], [((.loc 2), [])])
  | 19 => ([(1, []), (2, []), (5, []), (8, []), (9, [])], [((.loc 2), []), ((.loc 9), [])])
  | 20 => ([(1, []), (2, []), (8, []), (9, []), (171, [])], [((.loc 2), []), ((.loc 9), [])])
  | 21 => ([(4, [])], [])
  | 22 => ([(1, []), (2, []), (5, []), (8, [])], [((.loc 2), [])])
  | 23 => ([(1, []), (2, []), (186, [])], [((.loc 2), [])])
  | 24 => ([(4, [])], [])
  | 25 => ([(1, []), (2, []), (10, [])], [((.loc 2), [])])
  | 26 => ([(1, []), (2, []), (10, []), (191, [])], [((.loc 2), [])])
  | 27 => ([(1, []), (2, []), (10, [])], [((.loc 2), [])])
  | 28 => ([(1, []), (2, []), (10, []), (204, [])], [((.loc 2), [])])
  | 29 => ([(4, [])], [])
  | 30 => ([(11, []), (12, [])], [])
  | 31 => ([(4, [])], [])
  | _ => ([], [])
noncomputable def head23_0 (e : Edit) (d : Int) (x5 : Int) (x6 : Int) : LSt U := (⟨[(1, .c (.int .i64 d)), (2, .ptr (.loc 2) 0), (5, .c (.int .i64 x5)), (6, .c (.int .i64 x6))], [((.loc 2), [.int .i64 (Edit.kind e), .int .i64 (Tree.kind (Edit.old e)), .slice (U := U) .u64 (Tree.words (Edit.old e)) .unk, .slice (U := U) .tree (Tree.kids (Edit.old e)) .unk, .int .i64 (Tree.kind (Edit.new e)), .slice (U := U) .u64 (Tree.words (Edit.new e)) .unk, .slice (U := U) .tree (Tree.kids (Edit.new e)) .unk, .slice (U := U) .wedit (Edit.words e) .unk, .slice (U := U) .kid (Edit.kids e) .unk, .int .i64 (Edit.list e), .slice (U := U) .op (Edit.ops e) .unk])], []⟩ : LSt U)
noncomputable def head23_1 (e : Edit) (d : Int) (x5_a : Int) (x8_a : Int) : LSt U := (⟨[(1, .c (.int .i64 d)), (2, .ptr (.loc 2) 0), (5, .c (.int .i64 x5_a)), (8, .c (.int .i64 x8_a))], [((.loc 2), [.int .i64 (Edit.kind e), .int .i64 (Tree.kind (Edit.old e)), .slice (U := U) .u64 (Tree.words (Edit.old e)) .unk, .slice (U := U) .tree (Tree.kids (Edit.old e)) .unk, .int .i64 (Tree.kind (Edit.new e)), .slice (U := U) .u64 (Tree.words (Edit.new e)) .unk, .slice (U := U) .tree (Tree.kids (Edit.new e)) .unk, .slice (U := U) .wedit (Edit.words e) .unk, .slice (U := U) .kid (Edit.kids e) .unk, .int .i64 (Edit.list e), .slice (U := U) .op (Edit.ops e) .unk])], []⟩ : LSt U)
noncomputable def head23_2 (e : Edit) (d : Int) (x10_b : Int) : LSt U := (⟨[(1, .c (.int .i64 d)), (2, .ptr (.loc 2) 0), (10, .c (.int .i64 x10_b))], [((.loc 2), [.int .i64 (Edit.kind e), .int .i64 (Tree.kind (Edit.old e)), .slice (U := U) .u64 (Tree.words (Edit.old e)) .unk, .slice (U := U) .tree (Tree.kids (Edit.old e)) .unk, .int .i64 (Tree.kind (Edit.new e)), .slice (U := U) .u64 (Tree.words (Edit.new e)) .unk, .slice (U := U) .tree (Tree.kids (Edit.new e)) .unk, .slice (U := U) .wedit (Edit.words e) .unk, .slice (U := U) .kid (Edit.kids e) .unk, .int .i64 (Edit.list e), .slice (U := U) .op (Edit.ops e) .unk])], []⟩ : LSt U)
noncomputable abbrev A23 (N : Nat) (p : List Nat) := awp cfg (know (know23 N)) (drawOk cfg (know (know23 N))) Try.f23.ntmps lv23 (cd Try.f23 p)
noncomputable abbrev S23 (N : Nat) (p : List Nat) := seqK cfg (know (know23 N)) (drawOk cfg (know (know23 N))) Try.f23.ntmps lv23 (cd Try.f23 p)
theorem vc23 (N : Nat) (e : Edit) (d : Int) (Q : AExit → LSt U → Prop) (h : ∀ y_1, y_1 = ((Edit.new e)) → ∀ y_2, y_2 = ((Edit.old e)) → ((Tr ((!((d : Int) == 0)) = true)) ∧ (Tr ((!((d : Int) == 0)) = true)) ∧ ((((d : Int) == 0) = false → (!((d : Int) == 0)) = true)) ∧ (Tr ((!(bif ((d : Int) == 0) then true else (decide (((Edit.kind e) : Int) < 0)))) = true)) ∧ (Tr ((!(bif ((d : Int) == 0) then true else (decide (((Edit.kind e) : Int) < 0)))) = true)) ∧ (((bif ((d : Int) == 0) then true else (decide (((Edit.kind e) : Int) < 0))) = false → (!(bif ((d : Int) == 0) then true else (decide (((Edit.kind e) : Int) < 0)))) = true)) ∧ (((bif (bif ((d : Int) == 0) then true else (decide (((Edit.kind e) : Int) < 0))) then true else (decide ((3 : Int) < (Edit.kind e)))) = true → (Q .ret (⟨[(4, .c (.bool false))], [], []⟩ : LSt U))) ∧ ((bif (bif ((d : Int) == 0) then true else (decide (((Edit.kind e) : Int) < 0))) then true else (decide ((3 : Int) < (Edit.kind e)))) = false → (Tr ((((Edit.kind e) : Int) != 1) = true)) ∧ (Tr ((((Edit.kind e) : Int) != 1) = true)) ∧ ((((Edit.kind e) : Int) != 1) = true → pre62 (y_2, ())) ∧ (Tr ((((Edit.kind e) : Int) != 1) = true)) ∧ (Tr (((((Edit.kind e) : Int) != 1) && (noneT y_2)) = true)) ∧ (Tr (((((Edit.kind e) : Int) != 1) && (noneT y_2)) = true)) ∧ (((((Edit.kind e) : Int) != 1) && (noneT y_2)) = true → pre62 (y_1, ())) ∧ ((((Edit.kind e) : Int) != 1) = true → (True → (((Edit.kind e) : Int) != 1) = true)) ∧ ((((Edit.kind e) : Int) != 1) = true → ((noneT y_2) = true → ((((Edit.kind e) : Int) != 1) && (noneT y_2)) = true)) ∧ (Tr ((((Edit.kind e) : Int) != 1) = true)) ∧ ((Tr ((((Edit.kind e) : Int) != 1) = true))) ∧ (Tr ((!(bif (((Edit.kind e) : Int) != 1) then (!(bif (noneT y_2) then (noneT y_1) else false)) else false)) = true)) ∧ (Tr ((!(bif (((Edit.kind e) : Int) != 1) then (!(bif (noneT y_2) then (noneT y_1) else false)) else false)) = true)) ∧ (Tr ((!(bif (((Edit.kind e) : Int) != 1) then (!(bif (noneT y_2) then (noneT y_1) else false)) else false)) = true)) ∧ (Tr (((!(bif (((Edit.kind e) : Int) != 1) then (!(bif (noneT y_2) then (noneT y_1) else false)) else false)) && (((Edit.kind e) : Int) != 2)) = true)) ∧ (Tr (((!(bif (((Edit.kind e) : Int) != 1) then (!(bif (noneT y_2) then (noneT y_1) else false)) else false)) && (((Edit.kind e) : Int) != 2)) = true)) ∧ (Tr (((!(bif (((Edit.kind e) : Int) != 1) then (!(bif (noneT y_2) then (noneT y_1) else false)) else false)) && (((Edit.kind e) : Int) != 2)) = true)) ∧ (Tr (((!(bif (((Edit.kind e) : Int) != 1) then (!(bif (noneT y_2) then (noneT y_1) else false)) else false)) && (((Edit.kind e) : Int) != 2)) = true)) ∧ (Tr (((!(bif (((Edit.kind e) : Int) != 1) then (!(bif (noneT y_2) then (noneT y_1) else false)) else false)) && (((Edit.kind e) : Int) != 2)) = true)) ∧ (Tr (((!(bif (((Edit.kind e) : Int) != 1) then (!(bif (noneT y_2) then (noneT y_1) else false)) else false)) && (((Edit.kind e) : Int) != 2)) = true)) ∧ (((!(bif (((Edit.kind e) : Int) != 1) then (!(bif (noneT y_2) then (noneT y_1) else false)) else false)) && (((Edit.kind e) : Int) != 2)) = true → InR ((((Edit.words e).length : Int) : Int) + ((Edit.kids e).length : Int))) ∧ (Tr (((!(bif (((Edit.kind e) : Int) != 1) then (!(bif (noneT y_2) then (noneT y_1) else false)) else false)) && (((Edit.kind e) : Int) != 2)) = true)) ∧ ((!(bif (((Edit.kind e) : Int) != 1) then (!(bif (noneT y_2) then (noneT y_1) else false)) else false)) = true → (True → (!(bif (((Edit.kind e) : Int) != 1) then (!(bif (noneT y_2) then (noneT y_1) else false)) else false)) = true)) ∧ ((!(bif (((Edit.kind e) : Int) != 1) then (!(bif (noneT y_2) then (noneT y_1) else false)) else false)) = true → ((((Edit.kind e) : Int) != 2) = true → ((!(bif (((Edit.kind e) : Int) != 1) then (!(bif (noneT y_2) then (noneT y_1) else false)) else false)) && (((Edit.kind e) : Int) != 2)) = true)) ∧ (((bif (((Edit.kind e) : Int) != 1) then (!(bif (noneT y_2) then (noneT y_1) else false)) else false) = false → (!(bif (((Edit.kind e) : Int) != 1) then (!(bif (noneT y_2) then (noneT y_1) else false)) else false)) = true)) ∧ (Tr ((!(bif (bif (((Edit.kind e) : Int) != 1) then (!(bif (noneT y_2) then (noneT y_1) else false)) else false) then true else (bif (((Edit.kind e) : Int) != 2) then (decide ((0 : Int) < ((((Edit.words e).length : Int) : Int) + ((Edit.kids e).length : Int)))) else false))) = true)) ∧ (Tr ((!(bif (bif (((Edit.kind e) : Int) != 1) then (!(bif (noneT y_2) then (noneT y_1) else false)) else false) then true else (bif (((Edit.kind e) : Int) != 2) then (decide ((0 : Int) < ((((Edit.words e).length : Int) : Int) + ((Edit.kids e).length : Int)))) else false))) = true)) ∧ (Tr ((!(bif (bif (((Edit.kind e) : Int) != 1) then (!(bif (noneT y_2) then (noneT y_1) else false)) else false) then true else (bif (((Edit.kind e) : Int) != 2) then (decide ((0 : Int) < ((((Edit.words e).length : Int) : Int) + ((Edit.kids e).length : Int)))) else false))) = true)) ∧ (Tr (((!(bif (bif (((Edit.kind e) : Int) != 1) then (!(bif (noneT y_2) then (noneT y_1) else false)) else false) then true else (bif (((Edit.kind e) : Int) != 2) then (decide ((0 : Int) < ((((Edit.words e).length : Int) : Int) + ((Edit.kids e).length : Int)))) else false))) && (((Edit.kind e) : Int) != 3)) = true)) ∧ (Tr (((!(bif (bif (((Edit.kind e) : Int) != 1) then (!(bif (noneT y_2) then (noneT y_1) else false)) else false) then true else (bif (((Edit.kind e) : Int) != 2) then (decide ((0 : Int) < ((((Edit.words e).length : Int) : Int) + ((Edit.kids e).length : Int)))) else false))) && (((Edit.kind e) : Int) != 3)) = true)) ∧ (Tr (((!(bif (bif (((Edit.kind e) : Int) != 1) then (!(bif (noneT y_2) then (noneT y_1) else false)) else false) then true else (bif (((Edit.kind e) : Int) != 2) then (decide ((0 : Int) < ((((Edit.words e).length : Int) : Int) + ((Edit.kids e).length : Int)))) else false))) && (((Edit.kind e) : Int) != 3)) = true)) ∧ (Tr ((((!(bif (bif (((Edit.kind e) : Int) != 1) then (!(bif (noneT y_2) then (noneT y_1) else false)) else false) then true else (bif (((Edit.kind e) : Int) != 2) then (decide ((0 : Int) < ((((Edit.words e).length : Int) : Int) + ((Edit.kids e).length : Int)))) else false))) && (((Edit.kind e) : Int) != 3)) && (!(((Edit.list e) : Int) != 0))) = true)) ∧ (Tr ((((!(bif (bif (((Edit.kind e) : Int) != 1) then (!(bif (noneT y_2) then (noneT y_1) else false)) else false) then true else (bif (((Edit.kind e) : Int) != 2) then (decide ((0 : Int) < ((((Edit.words e).length : Int) : Int) + ((Edit.kids e).length : Int)))) else false))) && (((Edit.kind e) : Int) != 3)) && (!(((Edit.list e) : Int) != 0))) = true)) ∧ (Tr ((((!(bif (bif (((Edit.kind e) : Int) != 1) then (!(bif (noneT y_2) then (noneT y_1) else false)) else false) then true else (bif (((Edit.kind e) : Int) != 2) then (decide ((0 : Int) < ((((Edit.words e).length : Int) : Int) + ((Edit.kids e).length : Int)))) else false))) && (((Edit.kind e) : Int) != 3)) && (!(((Edit.list e) : Int) != 0))) = true)) ∧ (((!(bif (bif (((Edit.kind e) : Int) != 1) then (!(bif (noneT y_2) then (noneT y_1) else false)) else false) then true else (bif (((Edit.kind e) : Int) != 2) then (decide ((0 : Int) < ((((Edit.words e).length : Int) : Int) + ((Edit.kids e).length : Int)))) else false))) && (((Edit.kind e) : Int) != 3)) = true → (True → ((!(bif (bif (((Edit.kind e) : Int) != 1) then (!(bif (noneT y_2) then (noneT y_1) else false)) else false) then true else (bif (((Edit.kind e) : Int) != 2) then (decide ((0 : Int) < ((((Edit.words e).length : Int) : Int) + ((Edit.kids e).length : Int)))) else false))) && (((Edit.kind e) : Int) != 3)) = true)) ∧ (((!(bif (bif (((Edit.kind e) : Int) != 1) then (!(bif (noneT y_2) then (noneT y_1) else false)) else false) then true else (bif (((Edit.kind e) : Int) != 2) then (decide ((0 : Int) < ((((Edit.words e).length : Int) : Int) + ((Edit.kids e).length : Int)))) else false))) && (((Edit.kind e) : Int) != 3)) = true → ((((Edit.list e) : Int) != 0) = false → (((!(bif (bif (((Edit.kind e) : Int) != 1) then (!(bif (noneT y_2) then (noneT y_1) else false)) else false) then true else (bif (((Edit.kind e) : Int) != 2) then (decide ((0 : Int) < ((((Edit.words e).length : Int) : Int) + ((Edit.kids e).length : Int)))) else false))) && (((Edit.kind e) : Int) != 3)) && (!(((Edit.list e) : Int) != 0))) = true)) ∧ ((!(bif (bif (((Edit.kind e) : Int) != 1) then (!(bif (noneT y_2) then (noneT y_1) else false)) else false) then true else (bif (((Edit.kind e) : Int) != 2) then (decide ((0 : Int) < ((((Edit.words e).length : Int) : Int) + ((Edit.kids e).length : Int)))) else false))) = true → (True → (!(bif (bif (((Edit.kind e) : Int) != 1) then (!(bif (noneT y_2) then (noneT y_1) else false)) else false) then true else (bif (((Edit.kind e) : Int) != 2) then (decide ((0 : Int) < ((((Edit.words e).length : Int) : Int) + ((Edit.kids e).length : Int)))) else false))) = true)) ∧ ((!(bif (bif (((Edit.kind e) : Int) != 1) then (!(bif (noneT y_2) then (noneT y_1) else false)) else false) then true else (bif (((Edit.kind e) : Int) != 2) then (decide ((0 : Int) < ((((Edit.words e).length : Int) : Int) + ((Edit.kids e).length : Int)))) else false))) = true → ((((Edit.kind e) : Int) != 3) = true → ((!(bif (bif (((Edit.kind e) : Int) != 1) then (!(bif (noneT y_2) then (noneT y_1) else false)) else false) then true else (bif (((Edit.kind e) : Int) != 2) then (decide ((0 : Int) < ((((Edit.words e).length : Int) : Int) + ((Edit.kids e).length : Int)))) else false))) && (((Edit.kind e) : Int) != 3)) = true)) ∧ (((bif (bif (((Edit.kind e) : Int) != 1) then (!(bif (noneT y_2) then (noneT y_1) else false)) else false) then true else (bif (((Edit.kind e) : Int) != 2) then (decide ((0 : Int) < ((((Edit.words e).length : Int) : Int) + ((Edit.kids e).length : Int)))) else false)) = false → (!(bif (bif (((Edit.kind e) : Int) != 1) then (!(bif (noneT y_2) then (noneT y_1) else false)) else false) then true else (bif (((Edit.kind e) : Int) != 2) then (decide ((0 : Int) < ((((Edit.words e).length : Int) : Int) + ((Edit.kids e).length : Int)))) else false))) = true)) ∧ (((bif (bif (bif (((Edit.kind e) : Int) != 1) then (!(bif (noneT y_2) then (noneT y_1) else false)) else false) then true else (bif (((Edit.kind e) : Int) != 2) then (decide ((0 : Int) < ((((Edit.words e).length : Int) : Int) + ((Edit.kids e).length : Int)))) else false)) then true else (bif (((Edit.kind e) : Int) != 3) then (bif (((Edit.list e) : Int) != 0) then true else (decide ((0 : Int) < ((Edit.ops e).length : Int)))) else false)) = true → (Q .ret (⟨[(4, .c (.bool false))], [], []⟩ : LSt U))) ∧ ((bif (bif (bif (((Edit.kind e) : Int) != 1) then (!(bif (noneT y_2) then (noneT y_1) else false)) else false) then true else (bif (((Edit.kind e) : Int) != 2) then (decide ((0 : Int) < ((((Edit.words e).length : Int) : Int) + ((Edit.kids e).length : Int)))) else false)) then true else (bif (((Edit.kind e) : Int) != 3) then (bif (((Edit.list e) : Int) != 0) then true else (decide ((0 : Int) < ((Edit.ops e).length : Int)))) else false)) = false → (((((Edit.kind e) : Int) == 1) = true → (pre37 (y_2, 64, ())) ∧ (Tr ((rightT y_2 64) = true)) ∧ (Tr ((rightT y_2 64) = true)) ∧ ((rightT y_2 64) = true → pre37 (y_1, 64, ())) ∧ ((Tr ((rightT y_2 64) = true))) ∧ (Tr ((bif (rightT y_2 64) then (rightT y_1 64) else false) = true)) ∧ (Tr ((bif (rightT y_2 64) then (rightT y_1 64) else false) = true)) ∧ (Tr ((bif (rightT y_2 64) then (rightT y_1 64) else false) = true)) ∧ ((Tr ((bif (rightT y_2 64) then (rightT y_1 64) else false) = true))) ∧ (Tr ((bif (bif (rightT y_2 64) then (rightT y_1 64) else false) then (((Tree.kind (Edit.old e)) : Int) != 10) else false) = true)) ∧ (Tr ((bif (bif (rightT y_2 64) then (rightT y_1 64) else false) then (((Tree.kind (Edit.old e)) : Int) != 10) else false) = true)) ∧ (Tr ((bif (bif (rightT y_2 64) then (rightT y_1 64) else false) then (((Tree.kind (Edit.old e)) : Int) != 10) else false) = true)) ∧ ((Tr ((bif (bif (rightT y_2 64) then (rightT y_1 64) else false) then (((Tree.kind (Edit.old e)) : Int) != 10) else false) = true))) ∧ (Q .ret (⟨[(4, .c (.bool (bif (bif (bif (rightT y_2 64) then (rightT y_1 64) else false) then (((Tree.kind (Edit.old e)) : Int) != 10) else false) then (((Tree.kind (Edit.new e)) : Int) != 10) else false)))], [], []⟩ : LSt U))) ∧ ((((Edit.kind e) : Int) == 1) = false → ((LoopWp (A23 N [1, 1, 1, 1, 1, 0, 1, 0, 0]) (head23_0 e d (-1) 0) (AExit.inBlock 0 (S23 N [1, 1, 1, 1, 1, 1] Q)))))))))))) :
    A23 N [] (⟨[(0, .agg [.int .i64 (Edit.kind e), .int .i64 (Tree.kind (Edit.old e)), .slice (U := U) .u64 (Tree.words (Edit.old e)) .unk, .slice (U := U) .tree (Tree.kids (Edit.old e)) .unk, .int .i64 (Tree.kind (Edit.new e)), .slice (U := U) .u64 (Tree.words (Edit.new e)) .unk, .slice (U := U) .tree (Tree.kids (Edit.new e)) .unk, .slice (U := U) .wedit (Edit.words e) .unk, .slice (U := U) .kid (Edit.kids e) .unk, .int .i64 (Edit.list e), .slice (U := U) .op (Edit.ops e) .unk]), (1, .c (.int .i64 d))], [], []⟩ : LSt U) Q :=
  Eq.mpr (by kernel_rfl) (h _ (reTree_eq _) _ (reTree_eq _))
theorem vc23_l0 (N : Nat) (e : Edit) (d : Int) (x5 : Int) (x6 : Int) (N0 : LSt U → Prop) (Q : AExit → LSt U → Prop) (h : ∀ y_1, y_1 = (List.getD (Edit.words e) (Int.toNat x6) (WEdit.mk 0 0 0 0)) → (((decide ((x6 : Int) < ((Edit.words e).length : Int))) = true → ((0 : Int) ≤ x6 ∧ x6 < ((Edit.words e).length : Int)) ∧ ((Tr ((!(decide (((WEdit.at_ y_1) : Int) ≤ x5))) = true)) ∧ (Tr ((!(decide (((WEdit.at_ y_1) : Int) ≤ x5))) = true)) ∧ (((decide (((WEdit.at_ y_1) : Int) ≤ x5)) = false → (!(decide (((WEdit.at_ y_1) : Int) ≤ x5))) = true)) ∧ (Tr ((!(bif (decide (((WEdit.at_ y_1) : Int) ≤ x5)) then true else (decide ((65534 : Int) < (WEdit.at_ y_1))))) = true)) ∧ (Tr ((!(bif (decide (((WEdit.at_ y_1) : Int) ≤ x5)) then true else (decide ((65534 : Int) < (WEdit.at_ y_1))))) = true)) ∧ (((bif (decide (((WEdit.at_ y_1) : Int) ≤ x5)) then true else (decide ((65534 : Int) < (WEdit.at_ y_1)))) = false → (!(bif (decide (((WEdit.at_ y_1) : Int) ≤ x5)) then true else (decide ((65534 : Int) < (WEdit.at_ y_1))))) = true)) ∧ (Tr ((!(bif (bif (decide (((WEdit.at_ y_1) : Int) ≤ x5)) then true else (decide ((65534 : Int) < (WEdit.at_ y_1)))) then true else (((WEdit.mask y_1) : Int) == 0))) = true)) ∧ (Tr ((!(bif (bif (decide (((WEdit.at_ y_1) : Int) ≤ x5)) then true else (decide ((65534 : Int) < (WEdit.at_ y_1)))) then true else (((WEdit.mask y_1) : Int) == 0))) = true)) ∧ (Tr ((!(bif (bif (decide (((WEdit.at_ y_1) : Int) ≤ x5)) then true else (decide ((65534 : Int) < (WEdit.at_ y_1)))) then true else (((WEdit.mask y_1) : Int) == 0))) = true)) ∧ (Tr ((!(bif (bif (decide (((WEdit.at_ y_1) : Int) ≤ x5)) then true else (decide ((65534 : Int) < (WEdit.at_ y_1)))) then true else (((WEdit.mask y_1) : Int) == 0))) = true)) ∧ ((!(bif (bif (decide (((WEdit.at_ y_1) : Int) ≤ x5)) then true else (decide ((65534 : Int) < (WEdit.at_ y_1)))) then true else (((WEdit.mask y_1) : Int) == 0))) = true → pre63 ((WEdit.old y_1), (WEdit.mask y_1), ())) ∧ (Tr ((!(bif (bif (decide (((WEdit.at_ y_1) : Int) ≤ x5)) then true else (decide ((65534 : Int) < (WEdit.at_ y_1)))) then true else (((WEdit.mask y_1) : Int) == 0))) = true)) ∧ (((bif (bif (decide (((WEdit.at_ y_1) : Int) ≤ x5)) then true else (decide ((65534 : Int) < (WEdit.at_ y_1)))) then true else (((WEdit.mask y_1) : Int) == 0)) = false → (!(bif (bif (decide (((WEdit.at_ y_1) : Int) ≤ x5)) then true else (decide ((65534 : Int) < (WEdit.at_ y_1)))) then true else (((WEdit.mask y_1) : Int) == 0))) = true)) ∧ (Tr ((!(bif (bif (bif (decide (((WEdit.at_ y_1) : Int) ≤ x5)) then true else (decide ((65534 : Int) < (WEdit.at_ y_1)))) then true else (((WEdit.mask y_1) : Int) == 0)) then true else (!(withinW (WEdit.old y_1) (WEdit.mask y_1))))) = true)) ∧ (Tr ((!(bif (bif (bif (decide (((WEdit.at_ y_1) : Int) ≤ x5)) then true else (decide ((65534 : Int) < (WEdit.at_ y_1)))) then true else (((WEdit.mask y_1) : Int) == 0)) then true else (!(withinW (WEdit.old y_1) (WEdit.mask y_1))))) = true)) ∧ (Tr ((!(bif (bif (bif (decide (((WEdit.at_ y_1) : Int) ≤ x5)) then true else (decide ((65534 : Int) < (WEdit.at_ y_1)))) then true else (((WEdit.mask y_1) : Int) == 0)) then true else (!(withinW (WEdit.old y_1) (WEdit.mask y_1))))) = true)) ∧ (Tr ((!(bif (bif (bif (decide (((WEdit.at_ y_1) : Int) ≤ x5)) then true else (decide ((65534 : Int) < (WEdit.at_ y_1)))) then true else (((WEdit.mask y_1) : Int) == 0)) then true else (!(withinW (WEdit.old y_1) (WEdit.mask y_1))))) = true)) ∧ ((!(bif (bif (bif (decide (((WEdit.at_ y_1) : Int) ≤ x5)) then true else (decide ((65534 : Int) < (WEdit.at_ y_1)))) then true else (((WEdit.mask y_1) : Int) == 0)) then true else (!(withinW (WEdit.old y_1) (WEdit.mask y_1))))) = true → pre63 ((WEdit.new y_1), (WEdit.mask y_1), ())) ∧ (Tr ((!(bif (bif (bif (decide (((WEdit.at_ y_1) : Int) ≤ x5)) then true else (decide ((65534 : Int) < (WEdit.at_ y_1)))) then true else (((WEdit.mask y_1) : Int) == 0)) then true else (!(withinW (WEdit.old y_1) (WEdit.mask y_1))))) = true)) ∧ (((bif (bif (bif (decide (((WEdit.at_ y_1) : Int) ≤ x5)) then true else (decide ((65534 : Int) < (WEdit.at_ y_1)))) then true else (((WEdit.mask y_1) : Int) == 0)) then true else (!(withinW (WEdit.old y_1) (WEdit.mask y_1)))) = false → (!(bif (bif (bif (decide (((WEdit.at_ y_1) : Int) ≤ x5)) then true else (decide ((65534 : Int) < (WEdit.at_ y_1)))) then true else (((WEdit.mask y_1) : Int) == 0)) then true else (!(withinW (WEdit.old y_1) (WEdit.mask y_1))))) = true)) ∧ (((bif (bif (bif (bif (decide (((WEdit.at_ y_1) : Int) ≤ x5)) then true else (decide ((65534 : Int) < (WEdit.at_ y_1)))) then true else (((WEdit.mask y_1) : Int) == 0)) then true else (!(withinW (WEdit.old y_1) (WEdit.mask y_1)))) then true else (!(withinW (WEdit.new y_1) (WEdit.mask y_1)))) = true → (Q .ret (⟨[(4, .c (.bool false))], [], []⟩ : LSt U))) ∧ ((bif (bif (bif (bif (decide (((WEdit.at_ y_1) : Int) ≤ x5)) then true else (decide ((65534 : Int) < (WEdit.at_ y_1)))) then true else (((WEdit.mask y_1) : Int) == 0)) then true else (!(withinW (WEdit.old y_1) (WEdit.mask y_1)))) then true else (!(withinW (WEdit.new y_1) (WEdit.mask y_1)))) = false → ((InR ((x6 : Int) + 1)) ∧ (N0 (head23_0 e d (WEdit.at_ y_1) ((x6 : Int) + 1)))))))) ∧ ((decide ((x6 : Int) < ((Edit.words e).length : Int))) = false → ((LoopWp (A23 N [1, 1, 1, 1, 1, 1, 1, 0, 1, 0, 0]) (head23_1 e d (-1) 0) (AExit.inBlock 2 (S23 N [1, 1, 1, 1, 1, 1, 1, 1] Q))))))) :
    A23 N [1, 1, 1, 1, 1, 0, 1, 0, 0] (head23_0 e d x5 x6) (AExit.then N0 (AExit.inBlock 0 (S23 N [1, 1, 1, 1, 1, 1] Q))) :=
  Eq.mpr (by kernel_rfl) (h _ rfl)
theorem vc23_l1 (N : Nat) (e : Edit) (d : Int) (x5_a : Int) (x8_a : Int) (N1 : LSt U → Prop) (Q : AExit → LSt U → Prop) (h : ∀ y_1, y_1 = (List.getD (Edit.kids e) (Int.toNat x8_a) (KidOf.mk 0 Edit.nil)) → ∀ y_2, y_2 = ((KidOf.e y_1)) → (((decide ((x8_a : Int) < ((Edit.kids e).length : Int))) = true → ((0 : Int) ≤ x8_a ∧ x8_a < ((Edit.kids e).length : Int)) ∧ ((Tr ((!(decide (((KidOf.at_ y_1) : Int) ≤ x5_a))) = true)) ∧ (Tr ((!(decide (((KidOf.at_ y_1) : Int) ≤ x5_a))) = true)) ∧ (((decide (((KidOf.at_ y_1) : Int) ≤ x5_a)) = false → (!(decide (((KidOf.at_ y_1) : Int) ≤ x5_a))) = true)) ∧ (Tr ((!(bif (decide (((KidOf.at_ y_1) : Int) ≤ x5_a)) then true else (decide ((65534 : Int) < (KidOf.at_ y_1))))) = true)) ∧ (Tr ((!(bif (decide (((KidOf.at_ y_1) : Int) ≤ x5_a)) then true else (decide ((65534 : Int) < (KidOf.at_ y_1))))) = true)) ∧ (Tr ((!(bif (decide (((KidOf.at_ y_1) : Int) ≤ x5_a)) then true else (decide ((65534 : Int) < (KidOf.at_ y_1))))) = true)) ∧ (((bif (decide (((KidOf.at_ y_1) : Int) ≤ x5_a)) then true else (decide ((65534 : Int) < (KidOf.at_ y_1)))) = false → (!(bif (decide (((KidOf.at_ y_1) : Int) ≤ x5_a)) then true else (decide ((65534 : Int) < (KidOf.at_ y_1))))) = true)) ∧ (Tr ((!(bif (bif (decide (((KidOf.at_ y_1) : Int) ≤ x5_a)) then true else (decide ((65534 : Int) < (KidOf.at_ y_1)))) then true else (((Edit.kind (KidOf.e y_1)) : Int) == 0))) = true)) ∧ (Tr ((!(bif (bif (decide (((KidOf.at_ y_1) : Int) ≤ x5_a)) then true else (decide ((65534 : Int) < (KidOf.at_ y_1)))) then true else (((Edit.kind (KidOf.e y_1)) : Int) == 0))) = true)) ∧ ((!(bif (bif (decide (((KidOf.at_ y_1) : Int) ≤ x5_a)) then true else (decide ((65534 : Int) < (KidOf.at_ y_1)))) then true else (((Edit.kind (KidOf.e y_1)) : Int) == 0))) = true → InR ((d : Int) - 1)) ∧ (Tr ((!(bif (bif (decide (((KidOf.at_ y_1) : Int) ≤ x5_a)) then true else (decide ((65534 : Int) < (KidOf.at_ y_1)))) then true else (((Edit.kind (KidOf.e y_1)) : Int) == 0))) = true)) ∧ (Tr ((!(bif (bif (decide (((KidOf.at_ y_1) : Int) ≤ x5_a)) then true else (decide ((65534 : Int) < (KidOf.at_ y_1)))) then true else (((Edit.kind (KidOf.e y_1)) : Int) == 0))) = true)) ∧ ((!(bif (bif (decide (((KidOf.at_ y_1) : Int) ≤ x5_a)) then true else (decide ((65534 : Int) < (KidOf.at_ y_1)))) then true else (((Edit.kind (KidOf.e y_1)) : Int) == 0))) = true → pre23 (y_2, ((d : Int) - 1), ())) ∧ ((!(bif (bif (decide (((KidOf.at_ y_1) : Int) ≤ x5_a)) then true else (decide ((65534 : Int) < (KidOf.at_ y_1)))) then true else (((Edit.kind (KidOf.e y_1)) : Int) == 0))) = true → mu23 (y_2, ((d : Int) - 1), ()) < N) ∧ (Tr ((!(bif (bif (decide (((KidOf.at_ y_1) : Int) ≤ x5_a)) then true else (decide ((65534 : Int) < (KidOf.at_ y_1)))) then true else (((Edit.kind (KidOf.e y_1)) : Int) == 0))) = true)) ∧ (((bif (bif (decide (((KidOf.at_ y_1) : Int) ≤ x5_a)) then true else (decide ((65534 : Int) < (KidOf.at_ y_1)))) then true else (((Edit.kind (KidOf.e y_1)) : Int) == 0)) = false → (!(bif (bif (decide (((KidOf.at_ y_1) : Int) ≤ x5_a)) then true else (decide ((65534 : Int) < (KidOf.at_ y_1)))) then true else (((Edit.kind (KidOf.e y_1)) : Int) == 0))) = true)) ∧ (((bif (bif (bif (decide (((KidOf.at_ y_1) : Int) ≤ x5_a)) then true else (decide ((65534 : Int) < (KidOf.at_ y_1)))) then true else (((Edit.kind (KidOf.e y_1)) : Int) == 0)) then true else (!(rightE y_2 ((d : Int) - 1)))) = true → (Q .ret (⟨[(4, .c (.bool false))], [], []⟩ : LSt U))) ∧ ((bif (bif (bif (decide (((KidOf.at_ y_1) : Int) ≤ x5_a)) then true else (decide ((65534 : Int) < (KidOf.at_ y_1)))) then true else (((Edit.kind (KidOf.e y_1)) : Int) == 0)) then true else (!(rightE y_2 ((d : Int) - 1)))) = false → ((InR ((x8_a : Int) + 1)) ∧ (N1 (head23_1 e d (KidOf.at_ y_1) ((x8_a : Int) + 1)))))))) ∧ ((decide ((x8_a : Int) < ((Edit.kids e).length : Int))) = false → (Tr ((((Edit.kind e) : Int) == 3) = true)) ∧ (Tr ((((Edit.kind e) : Int) == 3) = true)) ∧ (Tr ((((Edit.kind e) : Int) == 3) = true)) ∧ (Tr (((((Edit.kind e) : Int) == 3) && (!(decide (((Edit.list e) : Int) < 2)))) = true)) ∧ (Tr (((((Edit.kind e) : Int) == 3) && (!(decide (((Edit.list e) : Int) < 2)))) = true)) ∧ ((((Edit.kind e) : Int) == 3) = true → (True → (((Edit.kind e) : Int) == 3) = true)) ∧ ((((Edit.kind e) : Int) == 3) = true → ((decide (((Edit.list e) : Int) < 2)) = false → ((((Edit.kind e) : Int) == 3) && (!(decide (((Edit.list e) : Int) < 2)))) = true)) ∧ ((Tr ((((Edit.kind e) : Int) == 3) = true))) ∧ (((bif (((Edit.kind e) : Int) == 3) then (bif (decide (((Edit.list e) : Int) < 2)) then true else (decide ((9 : Int) < (Edit.list e)))) else false) = true → (Q .ret (⟨[(4, .c (.bool false))], [], []⟩ : LSt U))) ∧ ((bif (((Edit.kind e) : Int) == 3) then (bif (decide (((Edit.list e) : Int) < 2)) then true else (decide ((9 : Int) < (Edit.list e)))) else false) = false → (LoopWp (A23 N [1, 1, 1, 1, 1, 1, 1, 1, 1, 0, 1, 0, 0]) (head23_2 e d 0) (AExit.inBlock 4 (S23 N [1, 1, 1, 1, 1, 1, 1, 1, 1, 1] Q)))))))) :
    A23 N [1, 1, 1, 1, 1, 1, 1, 0, 1, 0, 0] (head23_1 e d x5_a x8_a) (AExit.then N1 (AExit.inBlock 2 (S23 N [1, 1, 1, 1, 1, 1, 1, 1] Q))) :=
  Eq.mpr (by kernel_rfl) (h _ rfl _ (reEdit_eq _))
theorem vc23_l2 (N : Nat) (e : Edit) (d : Int) (x10_b : Int) (N2 : LSt U → Prop) (Q : AExit → LSt U → Prop) (h : ∀ y_1, y_1 = (e) → ∀ y_2, y_2 = (List.getD (Edit.ops e) (Int.toNat x10_b) Op.nil) → ∀ y_3, y_3 = (y_2) → (((decide ((x10_b : Int) < ((Edit.ops e).length : Int))) = true → ((0 : Int) ≤ x10_b ∧ x10_b < ((Edit.ops e).length : Int)) ∧ (InR ((d : Int) - 1)) ∧ (pre64 ((Edit.list e), y_3, ((d : Int) - 1), ())) ∧ (mu64 ((Edit.list e), y_3, ((d : Int) - 1), ()) < N) ∧ (((!(rightOp (Edit.list e) y_3 ((d : Int) - 1))) = true → (Q .ret (⟨[(4, .c (.bool false))], [], []⟩ : LSt U))) ∧ ((!(rightOp (Edit.list e) y_3 ((d : Int) - 1))) = false → (InR ((x10_b : Int) + 1)) ∧ (N2 (head23_2 e d ((x10_b : Int) + 1)))))) ∧ ((decide ((x10_b : Int) < ((Edit.ops e).length : Int))) = false → (pre65 (y_1, ())) ∧ ((Tr ((decide (((lenA (Edit.ops y_1) 0) : Int) < 1048576)) = true)) ∧ ((Tr ((decide (((lenA (Edit.ops y_1) 0) : Int) < 1048576)) = true))) ∧ (Q .ret (⟨[(4, .c (.bool (bif (decide (((lenA (Edit.ops y_1) 0) : Int) < 1048576)) then (decide (((lenB (Edit.ops y_1) 0) : Int) < 1048576)) else false)))], [], []⟩ : LSt U)))))) :
    A23 N [1, 1, 1, 1, 1, 1, 1, 1, 1, 0, 1, 0, 0] (head23_2 e d x10_b) (AExit.then N2 (AExit.inBlock 4 (S23 N [1, 1, 1, 1, 1, 1, 1, 1, 1, 1] Q))) :=
  Eq.mpr (by kernel_rfl) (h _ (reEdit_eq _) _ rfl _ (reOp_eq _))
def Body23 (N : Nat) (e : Edit) (d : Int)  : Prop := awp cfg (know (know23 N)) (drawOk cfg (know (know23 N))) Try.f23.ntmps lv23 (cd Try.f23 []) (entry (args23.can (e, d, ())) []) (EndsQ cfg Try.f23.ntmps Try.f23.results.toList (res23 (e, d, ())) [])
abbrev HB23 : Prop := ∀ (N : Nat) (e : Edit) (d : Int) (_ : Unit), pre23 (e, d, ()) → mu23 (e, d, ()) < N + 1 → Body23 N e d
noncomputable def know64 (N : Nat) : List (FuncId × Fs U) := (23, fs args23 (fun a => [pre23 a, mu23 a < N]) res23) :: (64, fs args64 (fun a => [pre64 a, mu64 a < N]) res64) :: [(62, spec62), (63, spec63), (104, spec104), (37, spec37), (65, spec65)]
def lv64 : Lives U := fun i => match i with
  | 0 => ([(0, []), (2, []), (4, [])], [((.loc 4), [])])
  | 1 => ([(0, []), (2, []), (4, []), (10, [])], [((.loc 4), [])])
  | 2 => ([(6, [])], [])
  | 3 => ([(0, []), (2, []), (4, []), (42, [])], [((.loc 4), [])])
  | 4 => ([(6, [])], [])
  | 5 => ([(0, []), (2, []), (4, []), (45, [])], [((.loc 4), [])])
  | 6 => ([(0, []), (4, []), (7, [])], [((.loc 4), [])])
  | 7 => ([(0, []), (4, []), (7, []), (50, [])], [((.loc 4), [])])
  | 8 => ([(0, []), (4, []), (7, [])], [((.loc 4), [])])
  | 9 => ([(0, []), (4, []), (7, []), (62, [])], [((.loc 4), [])])
  | 10 => ([(6, [])], [])
  | 11 => ([(6, [])], [])
  | 12 => ([(0, []), (4, []), (92, [])], [((.loc 4), [])])
  | 13 => ([(6, [])], [])
  | 14 => ([(6, [])], [])
  | _ => ([], [])
noncomputable def head64_0 (list : Int) (o : Op) (d : Int) (x7 : Int) : LSt U := (⟨[(0, .c (.int .i64 list)), (4, .ptr (.loc 4) 0), (7, .c (.int .i64 x7))], [((.loc 4), [.int .i64 (OpOf.kind o), .int .i64 (OpOf.n o), .slice (U := U) .tree (OpOf.l o) .unk, .int .i64 (Edit.kind (OpOf.e o)), .int .i64 (Tree.kind (Edit.old (OpOf.e o))), .slice (U := U) .u64 (Tree.words (Edit.old (OpOf.e o))) .unk, .slice (U := U) .tree (Tree.kids (Edit.old (OpOf.e o))) .unk, .int .i64 (Tree.kind (Edit.new (OpOf.e o))), .slice (U := U) .u64 (Tree.words (Edit.new (OpOf.e o))) .unk, .slice (U := U) .tree (Tree.kids (Edit.new (OpOf.e o))) .unk, .slice (U := U) .wedit (Edit.words (OpOf.e o)) .unk, .slice (U := U) .kid (Edit.kids (OpOf.e o)) .unk, .int .i64 (Edit.list (OpOf.e o)), .slice (U := U) .op (Edit.ops (OpOf.e o)) .unk])], []⟩ : LSt U)
noncomputable abbrev A64 (N : Nat) (p : List Nat) := awp cfg (know (know64 N)) (drawOk cfg (know (know64 N))) Try.f64.ntmps lv64 (cd Try.f64 p)
noncomputable abbrev S64 (N : Nat) (p : List Nat) := seqK cfg (know (know64 N)) (drawOk cfg (know (know64 N))) Try.f64.ntmps lv64 (cd Try.f64 p)
theorem vc64 (N : Nat) (list : Int) (o : Op) (d : Int) (Q : AExit → LSt U → Prop) (h : ∀ y_1, y_1 = ((OpOf.e o)) → ((((((OpOf.kind o) : Int) == 0) = true → (Tr ((decide ((1 : Int) ≤ (OpOf.n o))) = true)) ∧ (Tr ((decide ((1 : Int) ≤ (OpOf.n o))) = true)) ∧ ((Tr ((decide ((1 : Int) ≤ (OpOf.n o))) = true))) ∧ (Tr ((bif (decide ((1 : Int) ≤ (OpOf.n o))) then (decide (((OpOf.n o) : Int) ≤ 1048576)) else false) = true)) ∧ (Tr ((bif (decide ((1 : Int) ≤ (OpOf.n o))) then (decide (((OpOf.n o) : Int) ≤ 1048576)) else false) = true)) ∧ (Tr ((bif (decide ((1 : Int) ≤ (OpOf.n o))) then (decide (((OpOf.n o) : Int) ≤ 1048576)) else false) = true)) ∧ ((Tr ((bif (decide ((1 : Int) ≤ (OpOf.n o))) then (decide (((OpOf.n o) : Int) ≤ 1048576)) else false) = true))) ∧ (Tr ((bif (bif (decide ((1 : Int) ≤ (OpOf.n o))) then (decide (((OpOf.n o) : Int) ≤ 1048576)) else false) then ((((OpOf.l o).length : Int) : Int) == 0) else false) = true)) ∧ (Tr ((bif (bif (decide ((1 : Int) ≤ (OpOf.n o))) then (decide (((OpOf.n o) : Int) ≤ 1048576)) else false) then ((((OpOf.l o).length : Int) : Int) == 0) else false) = true)) ∧ ((bif (bif (decide ((1 : Int) ≤ (OpOf.n o))) then (decide (((OpOf.n o) : Int) ≤ 1048576)) else false) then ((((OpOf.l o).length : Int) : Int) == 0) else false) = true → pre104 (y_1, ())) ∧ ((Tr ((bif (bif (decide ((1 : Int) ≤ (OpOf.n o))) then (decide (((OpOf.n o) : Int) ≤ 1048576)) else false) then ((((OpOf.l o).length : Int) : Int) == 0) else false) = true))) ∧ (Q .ret (⟨[(6, .c (.bool (bif (bif (bif (decide ((1 : Int) ≤ (OpOf.n o))) then (decide (((OpOf.n o) : Int) ≤ 1048576)) else false) then ((((OpOf.l o).length : Int) : Int) == 0) else false) then (sameE y_1) else false)))], [], []⟩ : LSt U))) ∧ ((((OpOf.kind o) : Int) == 0) = false → (Tr ((!(((OpOf.n o) : Int) != 0)) = true)) ∧ (Tr ((!(((OpOf.n o) : Int) != 0)) = true)) ∧ (((((OpOf.n o) : Int) != 0) = false → (!(((OpOf.n o) : Int) != 0)) = true)) ∧ (Tr ((!(bif (((OpOf.n o) : Int) != 0) then true else (decide (((OpOf.kind o) : Int) < 0)))) = true)) ∧ (Tr ((!(bif (((OpOf.n o) : Int) != 0) then true else (decide (((OpOf.kind o) : Int) < 0)))) = true)) ∧ (((bif (((OpOf.n o) : Int) != 0) then true else (decide (((OpOf.kind o) : Int) < 0))) = false → (!(bif (((OpOf.n o) : Int) != 0) then true else (decide (((OpOf.kind o) : Int) < 0)))) = true)) ∧ (((bif (bif (((OpOf.n o) : Int) != 0) then true else (decide (((OpOf.kind o) : Int) < 0))) then true else (decide ((3 : Int) < (OpOf.kind o)))) = true → (Q .ret (⟨[(6, .c (.bool false))], [], []⟩ : LSt U))) ∧ ((bif (bif (((OpOf.n o) : Int) != 0) then true else (decide (((OpOf.kind o) : Int) < 0))) then true else (decide ((3 : Int) < (OpOf.kind o)))) = false → (((decide (((OpOf.kind o) : Int) < 3)) = true → (LoopWp (A64 N [1, 1, 1, 0, 1, 0, 0, 1, 0, 0]) (head64_0 list o d 0) (AExit.inBlock 0 (S64 N [1, 1, 1, 0, 1, 0, 1] (S64 N [1, 1, 1, 1] Q))))) ∧ ((decide (((OpOf.kind o) : Int) < 3)) = false → (Tr ((!(decide ((0 : Int) < ((OpOf.l o).length : Int)))) = true)) ∧ (Tr ((!(decide ((0 : Int) < ((OpOf.l o).length : Int)))) = true)) ∧ (Tr ((!(decide ((0 : Int) < ((OpOf.l o).length : Int)))) = true)) ∧ (((decide ((0 : Int) < ((OpOf.l o).length : Int))) = false → (!(decide ((0 : Int) < ((OpOf.l o).length : Int)))) = true)) ∧ (Tr ((!(bif (decide ((0 : Int) < ((OpOf.l o).length : Int))) then true else (((Edit.kind (OpOf.e o)) : Int) == 0))) = true)) ∧ (((bif (decide ((0 : Int) < ((OpOf.l o).length : Int))) then true else (((Edit.kind (OpOf.e o)) : Int) == 0)) = false → (!(bif (decide ((0 : Int) < ((OpOf.l o).length : Int))) then true else (((Edit.kind (OpOf.e o)) : Int) == 0))) = true)) ∧ (Tr ((!(bif (bif (decide ((0 : Int) < ((OpOf.l o).length : Int))) then true else (((Edit.kind (OpOf.e o)) : Int) == 0)) then true else (decide ((list : Int) ≤ 7)))) = true)) ∧ (Tr ((!(bif (bif (decide ((0 : Int) < ((OpOf.l o).length : Int))) then true else (((Edit.kind (OpOf.e o)) : Int) == 0)) then true else (decide ((list : Int) ≤ 7)))) = true)) ∧ (Tr ((!(bif (bif (decide ((0 : Int) < ((OpOf.l o).length : Int))) then true else (((Edit.kind (OpOf.e o)) : Int) == 0)) then true else (decide ((list : Int) ≤ 7)))) = true)) ∧ ((!(bif (bif (decide ((0 : Int) < ((OpOf.l o).length : Int))) then true else (((Edit.kind (OpOf.e o)) : Int) == 0)) then true else (decide ((list : Int) ≤ 7)))) = true → pre23 (y_1, d, ())) ∧ ((!(bif (bif (decide ((0 : Int) < ((OpOf.l o).length : Int))) then true else (((Edit.kind (OpOf.e o)) : Int) == 0)) then true else (decide ((list : Int) ≤ 7)))) = true → mu23 (y_1, d, ()) < N) ∧ (Tr ((!(bif (bif (decide ((0 : Int) < ((OpOf.l o).length : Int))) then true else (((Edit.kind (OpOf.e o)) : Int) == 0)) then true else (decide ((list : Int) ≤ 7)))) = true)) ∧ (((bif (bif (decide ((0 : Int) < ((OpOf.l o).length : Int))) then true else (((Edit.kind (OpOf.e o)) : Int) == 0)) then true else (decide ((list : Int) ≤ 7))) = false → (!(bif (bif (decide ((0 : Int) < ((OpOf.l o).length : Int))) then true else (((Edit.kind (OpOf.e o)) : Int) == 0)) then true else (decide ((list : Int) ≤ 7)))) = true)) ∧ (((bif (bif (bif (decide ((0 : Int) < ((OpOf.l o).length : Int))) then true else (((Edit.kind (OpOf.e o)) : Int) == 0)) then true else (decide ((list : Int) ≤ 7))) then true else (!(rightE y_1 d))) = true → (Q .ret (⟨[(6, .c (.bool false))], [], []⟩ : LSt U))) ∧ ((bif (bif (bif (decide ((0 : Int) < ((OpOf.l o).length : Int))) then true else (((Edit.kind (OpOf.e o)) : Int) == 0)) then true else (decide ((list : Int) ≤ 7))) then true else (!(rightE y_1 d))) = false → (Tr ((!((list : Int) == 8)) = true)) ∧ (Tr ((!((list : Int) == 8)) = true)) ∧ (Tr ((!((list : Int) == 8)) = true)) ∧ ((((list : Int) == 8) = false → (!((list : Int) == 8)) = true)) ∧ (Tr ((!(bif ((list : Int) == 8) then true else (((Edit.kind (OpOf.e o)) : Int) == 2))) = true)) ∧ (Tr ((!(bif ((list : Int) == 8) then true else (((Edit.kind (OpOf.e o)) : Int) == 2))) = true)) ∧ (Tr ((!(bif ((list : Int) == 8) then true else (((Edit.kind (OpOf.e o)) : Int) == 2))) = true)) ∧ (Tr ((!(bif ((list : Int) == 8) then true else (((Edit.kind (OpOf.e o)) : Int) == 2))) = true)) ∧ (Tr (((!(bif ((list : Int) == 8) then true else (((Edit.kind (OpOf.e o)) : Int) == 2))) && (((Edit.kind (OpOf.e o)) : Int) == 1)) = true)) ∧ (Tr (((!(bif ((list : Int) == 8) then true else (((Edit.kind (OpOf.e o)) : Int) == 2))) && (((Edit.kind (OpOf.e o)) : Int) == 1)) = true)) ∧ (Tr (((!(bif ((list : Int) == 8) then true else (((Edit.kind (OpOf.e o)) : Int) == 2))) && (((Edit.kind (OpOf.e o)) : Int) == 1)) = true)) ∧ (Tr (((!(bif ((list : Int) == 8) then true else (((Edit.kind (OpOf.e o)) : Int) == 2))) && (((Edit.kind (OpOf.e o)) : Int) == 1)) = true)) ∧ ((!(bif ((list : Int) == 8) then true else (((Edit.kind (OpOf.e o)) : Int) == 2))) = true → (True → (!(bif ((list : Int) == 8) then true else (((Edit.kind (OpOf.e o)) : Int) == 2))) = true)) ∧ ((!(bif ((list : Int) == 8) then true else (((Edit.kind (OpOf.e o)) : Int) == 2))) = true → ((((Edit.kind (OpOf.e o)) : Int) == 1) = true → ((!(bif ((list : Int) == 8) then true else (((Edit.kind (OpOf.e o)) : Int) == 2))) && (((Edit.kind (OpOf.e o)) : Int) == 1)) = true)) ∧ (Tr ((!(bif ((list : Int) == 8) then true else (((Edit.kind (OpOf.e o)) : Int) == 2))) = true)) ∧ (Tr (((!(bif ((list : Int) == 8) then true else (((Edit.kind (OpOf.e o)) : Int) == 2))) && (bif (((Edit.kind (OpOf.e o)) : Int) == 1) then (((Tree.kind (Edit.old (OpOf.e o))) : Int) == 1) else false)) = true)) ∧ (Tr (((!(bif ((list : Int) == 8) then true else (((Edit.kind (OpOf.e o)) : Int) == 2))) && (bif (((Edit.kind (OpOf.e o)) : Int) == 1) then (((Tree.kind (Edit.old (OpOf.e o))) : Int) == 1) else false)) = true)) ∧ (Tr (((!(bif ((list : Int) == 8) then true else (((Edit.kind (OpOf.e o)) : Int) == 2))) && (bif (((Edit.kind (OpOf.e o)) : Int) == 1) then (((Tree.kind (Edit.old (OpOf.e o))) : Int) == 1) else false)) = true)) ∧ (Tr (((!(bif ((list : Int) == 8) then true else (((Edit.kind (OpOf.e o)) : Int) == 2))) && (bif (((Edit.kind (OpOf.e o)) : Int) == 1) then (((Tree.kind (Edit.old (OpOf.e o))) : Int) == 1) else false)) = true)) ∧ ((!(bif ((list : Int) == 8) then true else (((Edit.kind (OpOf.e o)) : Int) == 2))) = true → (True → (!(bif ((list : Int) == 8) then true else (((Edit.kind (OpOf.e o)) : Int) == 2))) = true)) ∧ ((!(bif ((list : Int) == 8) then true else (((Edit.kind (OpOf.e o)) : Int) == 2))) = true → ((bif (((Edit.kind (OpOf.e o)) : Int) == 1) then (((Tree.kind (Edit.old (OpOf.e o))) : Int) == 1) else false) = true → ((!(bif ((list : Int) == 8) then true else (((Edit.kind (OpOf.e o)) : Int) == 2))) && (bif (((Edit.kind (OpOf.e o)) : Int) == 1) then (((Tree.kind (Edit.old (OpOf.e o))) : Int) == 1) else false)) = true)) ∧ (((bif ((list : Int) == 8) then true else (((Edit.kind (OpOf.e o)) : Int) == 2)) = false → (!(bif ((list : Int) == 8) then true else (((Edit.kind (OpOf.e o)) : Int) == 2))) = true)) ∧ (Q .ret (⟨[(6, .c (.bool (bif (bif ((list : Int) == 8) then true else (((Edit.kind (OpOf.e o)) : Int) == 2)) then true else (bif (bif (((Edit.kind (OpOf.e o)) : Int) == 1) then (((Tree.kind (Edit.old (OpOf.e o))) : Int) == 1) else false) then (((Tree.kind (Edit.new (OpOf.e o))) : Int) == 1) else false))))], [], []⟩ : LSt U)))))))))))) :
    A64 N [] (⟨[(0, .c (.int .i64 list)), (1, .agg [.int .i64 (OpOf.kind o), .int .i64 (OpOf.n o), .slice (U := U) .tree (OpOf.l o) .unk, .int .i64 (Edit.kind (OpOf.e o)), .int .i64 (Tree.kind (Edit.old (OpOf.e o))), .slice (U := U) .u64 (Tree.words (Edit.old (OpOf.e o))) .unk, .slice (U := U) .tree (Tree.kids (Edit.old (OpOf.e o))) .unk, .int .i64 (Tree.kind (Edit.new (OpOf.e o))), .slice (U := U) .u64 (Tree.words (Edit.new (OpOf.e o))) .unk, .slice (U := U) .tree (Tree.kids (Edit.new (OpOf.e o))) .unk, .slice (U := U) .wedit (Edit.words (OpOf.e o)) .unk, .slice (U := U) .kid (Edit.kids (OpOf.e o)) .unk, .int .i64 (Edit.list (OpOf.e o)), .slice (U := U) .op (Edit.ops (OpOf.e o)) .unk]), (2, .c (.int .i64 d))], [], []⟩ : LSt U) Q :=
  Eq.mpr (by kernel_rfl) (h _ (reEdit_eq _))
theorem vc64_l0 (N : Nat) (list : Int) (o : Op) (d : Int) (x7 : Int) (N0 : LSt U → Prop) (Q : AExit → LSt U → Prop) (h : (((decide ((x7 : Int) < ((OpOf.l o).length : Int))) = true → (InR ((x7 : Int) + 1)) ∧ ((0 : Int) ≤ x7 ∧ x7 ≤ ((x7 : Int) + 1) ∧ ((x7 : Int) + 1) ≤ ((OpOf.l o).length : Int)) ∧ (pre37 ((Tree.mk list ([]) (List.drop (Int.toNat x7) (List.take (Int.toNat ((x7 : Int) + 1)) (OpOf.l o)))), 64, ())) ∧ (((!(rightT (Tree.mk list ([]) (List.drop (Int.toNat x7) (List.take (Int.toNat ((x7 : Int) + 1)) (OpOf.l o)))) 64)) = true → (Q .ret (⟨[(6, .c (.bool false))], [], []⟩ : LSt U))) ∧ ((!(rightT (Tree.mk list ([]) (List.drop (Int.toNat x7) (List.take (Int.toNat ((x7 : Int) + 1)) (OpOf.l o)))) 64)) = false → (InR ((x7 : Int) + 1)) ∧ (N0 (head64_0 list o d ((x7 : Int) + 1)))))) ∧ ((decide ((x7 : Int) < ((OpOf.l o).length : Int))) = false → (Tr ((decide ((0 : Int) < ((OpOf.l o).length : Int))) = true)) ∧ (Tr ((decide ((0 : Int) < ((OpOf.l o).length : Int))) = true)) ∧ ((decide ((0 : Int) < ((OpOf.l o).length : Int))) = true → pre104 ((Edit.mk (Edit.kind (OpOf.e o)) (Tree.mk (Tree.kind (Edit.old (OpOf.e o))) (Tree.words (Edit.old (OpOf.e o))) (Tree.kids (Edit.old (OpOf.e o)))) (Tree.mk (Tree.kind (Edit.new (OpOf.e o))) (Tree.words (Edit.new (OpOf.e o))) (Tree.kids (Edit.new (OpOf.e o)))) (Edit.words (OpOf.e o)) (Edit.kids (OpOf.e o)) (Edit.list (OpOf.e o)) (Edit.ops (OpOf.e o))), ())) ∧ ((Tr ((decide ((0 : Int) < ((OpOf.l o).length : Int))) = true))) ∧ (Q .ret (⟨[(6, .c (.bool (bif (decide ((0 : Int) < ((OpOf.l o).length : Int))) then (sameE (Edit.mk (Edit.kind (OpOf.e o)) (Tree.mk (Tree.kind (Edit.old (OpOf.e o))) (Tree.words (Edit.old (OpOf.e o))) (Tree.kids (Edit.old (OpOf.e o)))) (Tree.mk (Tree.kind (Edit.new (OpOf.e o))) (Tree.words (Edit.new (OpOf.e o))) (Tree.kids (Edit.new (OpOf.e o)))) (Edit.words (OpOf.e o)) (Edit.kids (OpOf.e o)) (Edit.list (OpOf.e o)) (Edit.ops (OpOf.e o)))) else false)))], [], []⟩ : LSt U))))) :
    A64 N [1, 1, 1, 0, 1, 0, 0, 1, 0, 0] (head64_0 list o d x7) (AExit.then N0 (AExit.inBlock 0 (S64 N [1, 1, 1, 0, 1, 0, 1] (S64 N [1, 1, 1, 1] Q)))) :=
  Eq.mpr (by kernel_rfl) h
def Body64 (N : Nat) (list : Int) (o : Op) (d : Int)  : Prop := awp cfg (know (know64 N)) (drawOk cfg (know (know64 N))) Try.f64.ntmps lv64 (cd Try.f64 []) (entry (args64.can (list, o, d, ())) []) (EndsQ cfg Try.f64.ntmps Try.f64.results.toList (res64 (list, o, d, ())) [])
abbrev HB64 : Prop := ∀ (N : Nat) (list : Int) (o : Op) (d : Int) (_ : Unit), pre64 (list, o, d, ()) → mu64 (list, o, d, ()) < N + 1 → Body64 N list o d
noncomputable def know55 (N : Nat) : List (FuncId × Fs U) := (55, fs args55 (fun a => [pre55 a, mu55 a < N]) res55) :: [(65, spec65)]
def lv55 : Lives U := fun i => match i with
  | 0 => ([(1, [])], [((.loc 1), [])])
  | 1 => ([(1, []), (3, []), (4, [])], [((.loc 1), [])])
  | 2 => ([(1, []), (17, [])], [((.loc 1), [])])
  | 3 => ([(2, [])], [])
  | 4 => ([(1, []), (5, [])], [((.loc 1), [])])
  | 5 => ([(1, []), (5, []), (22, [])], [((.loc 1), [])])
  | 6 => ([(1, []), (5, [])], [((.loc 1), [])])
  | 7 => ([(1, []), (5, []), (32, [])], [((.loc 1), [])])
  | 8 => ([(2, [])], [])
  | 9 => ([(1, []), (6, [])], [((.loc 1), [])])
  | 10 => ([(1, []), (6, []), (37, [])], [((.loc 1), [])])
  | 11 => ([(1, []), (6, [])], [((.loc 1), [])])
  | 12 => ([(1, []), (6, []), (47, [])], [((.loc 1), [])])
  | 13 => ([(2, [])], [])
  | 14 => ([(2, [])], [])
  | _ => ([], [])
noncomputable def head55_0 (e : Edit) (x5 : Int) : LSt U := (⟨[(1, .ptr (.loc 1) 0), (5, .c (.int .i64 x5))], [((.loc 1), [.int .i64 (Edit.kind e), .int .i64 (Tree.kind (Edit.old e)), .slice (U := U) .u64 (Tree.words (Edit.old e)) .unk, .slice (U := U) .tree (Tree.kids (Edit.old e)) .unk, .int .i64 (Tree.kind (Edit.new e)), .slice (U := U) .u64 (Tree.words (Edit.new e)) .unk, .slice (U := U) .tree (Tree.kids (Edit.new e)) .unk, .slice (U := U) .wedit (Edit.words e) .unk, .slice (U := U) .kid (Edit.kids e) .unk, .int .i64 (Edit.list e), .slice (U := U) .op (Edit.ops e) .unk])], []⟩ : LSt U)
noncomputable def head55_1 (e : Edit) (x6_a : Int) : LSt U := (⟨[(1, .ptr (.loc 1) 0), (6, .c (.int .i64 x6_a))], [((.loc 1), [.int .i64 (Edit.kind e), .int .i64 (Tree.kind (Edit.old e)), .slice (U := U) .u64 (Tree.words (Edit.old e)) .unk, .slice (U := U) .tree (Tree.kids (Edit.old e)) .unk, .int .i64 (Tree.kind (Edit.new e)), .slice (U := U) .u64 (Tree.words (Edit.new e)) .unk, .slice (U := U) .tree (Tree.kids (Edit.new e)) .unk, .slice (U := U) .wedit (Edit.words e) .unk, .slice (U := U) .kid (Edit.kids e) .unk, .int .i64 (Edit.list e), .slice (U := U) .op (Edit.ops e) .unk])], []⟩ : LSt U)
noncomputable abbrev A55 (N : Nat) (p : List Nat) := awp cfg (know (know55 N)) (drawOk cfg (know (know55 N))) Try.f55.ntmps lv55 (cd Try.f55 p)
noncomputable abbrev S55 (N : Nat) (p : List Nat) := seqK cfg (know (know55 N)) (drawOk cfg (know (know55 N))) Try.f55.ntmps lv55 (cd Try.f55 p)
theorem vc55 (N : Nat) (e : Edit) (Q : AExit → LSt U → Prop) (h : ∀ y_1, y_1 = (e) → ((pre65 (y_1, ())) ∧ ((Tr ((!(decide ((2000 : Int) < (lenA (Edit.ops y_1) 0)))) = true)) ∧ (((decide ((2000 : Int) < (lenA (Edit.ops y_1) 0))) = false → (!(decide ((2000 : Int) < (lenA (Edit.ops y_1) 0)))) = true)) ∧ (((bif (decide ((2000 : Int) < (lenA (Edit.ops y_1) 0))) then true else (decide ((2000 : Int) < (lenB (Edit.ops y_1) 0)))) = true → (Q .ret (⟨[(2, .c (.bool false))], [], []⟩ : LSt U))) ∧ ((bif (decide ((2000 : Int) < (lenA (Edit.ops y_1) 0))) then true else (decide ((2000 : Int) < (lenB (Edit.ops y_1) 0)))) = false → (LoopWp (A55 N [1, 1, 1, 0, 1, 0, 0]) (head55_0 e 0) (AExit.inBlock 0 (S55 N [1, 1, 1, 1] Q)))))))) :
    A55 N [] (⟨[(0, .agg [.int .i64 (Edit.kind e), .int .i64 (Tree.kind (Edit.old e)), .slice (U := U) .u64 (Tree.words (Edit.old e)) .unk, .slice (U := U) .tree (Tree.kids (Edit.old e)) .unk, .int .i64 (Tree.kind (Edit.new e)), .slice (U := U) .u64 (Tree.words (Edit.new e)) .unk, .slice (U := U) .tree (Tree.kids (Edit.new e)) .unk, .slice (U := U) .wedit (Edit.words e) .unk, .slice (U := U) .kid (Edit.kids e) .unk, .int .i64 (Edit.list e), .slice (U := U) .op (Edit.ops e) .unk])], [], []⟩ : LSt U) Q :=
  Eq.mpr (by kernel_rfl) (h _ (reEdit_eq _))
theorem vc55_l0 (N : Nat) (e : Edit) (x5 : Int) (N0 : LSt U → Prop) (Q : AExit → LSt U → Prop) (h : ∀ y_1, y_1 = (List.getD (Edit.kids e) (Int.toNat x5) (KidOf.mk 0 Edit.nil)) → ∀ y_2, y_2 = ((KidOf.e y_1)) → (((decide ((x5 : Int) < ((Edit.kids e).length : Int))) = true → ((0 : Int) ≤ x5 ∧ x5 < ((Edit.kids e).length : Int)) ∧ (pre55 (y_2, ())) ∧ (mu55 (y_2, ()) < N) ∧ (((!(lightE y_2)) = true → (Q .ret (⟨[(2, .c (.bool false))], [], []⟩ : LSt U))) ∧ ((!(lightE y_2)) = false → (InR ((x5 : Int) + 1)) ∧ (N0 (head55_0 e ((x5 : Int) + 1)))))) ∧ ((decide ((x5 : Int) < ((Edit.kids e).length : Int))) = false → (LoopWp (A55 N [1, 1, 1, 1, 0, 1, 0, 0]) (head55_1 e 0) (AExit.inBlock 2 (S55 N [1, 1, 1, 1, 1] Q)))))) :
    A55 N [1, 1, 1, 0, 1, 0, 0] (head55_0 e x5) (AExit.then N0 (AExit.inBlock 0 (S55 N [1, 1, 1, 1] Q))) :=
  Eq.mpr (by kernel_rfl) (h _ rfl _ (reEdit_eq _))
theorem vc55_l1 (N : Nat) (e : Edit) (x6_a : Int) (N1 : LSt U → Prop) (Q : AExit → LSt U → Prop) (h : ∀ y_1, y_1 = (List.getD (Edit.ops e) (Int.toNat x6_a) Op.nil) → ∀ y_2, y_2 = ((OpOf.e y_1)) → (((decide ((x6_a : Int) < ((Edit.ops e).length : Int))) = true → ((0 : Int) ≤ x6_a ∧ x6_a < ((Edit.ops e).length : Int)) ∧ (pre55 (y_2, ())) ∧ (mu55 (y_2, ()) < N) ∧ (((!(lightE y_2)) = true → (Q .ret (⟨[(2, .c (.bool false))], [], []⟩ : LSt U))) ∧ ((!(lightE y_2)) = false → (InR ((x6_a : Int) + 1)) ∧ (N1 (head55_1 e ((x6_a : Int) + 1)))))) ∧ ((decide ((x6_a : Int) < ((Edit.ops e).length : Int))) = false → (Q .ret (⟨[(2, .c (.bool true))], [], []⟩ : LSt U))))) :
    A55 N [1, 1, 1, 1, 0, 1, 0, 0] (head55_1 e x6_a) (AExit.then N1 (AExit.inBlock 2 (S55 N [1, 1, 1, 1, 1] Q))) :=
  Eq.mpr (by kernel_rfl) (h _ rfl _ (reEdit_eq _))
def Body55 (N : Nat) (e : Edit)  : Prop := awp cfg (know (know55 N)) (drawOk cfg (know (know55 N))) Try.f55.ntmps lv55 (cd Try.f55 []) (entry (args55.can (e, ())) []) (EndsQ cfg Try.f55.ntmps Try.f55.results.toList (res55 (e, ())) [])
theorem make55 (c65 : Contract Try.prog cfg 65 spec65) (hb : ∀ (N : Nat) (e : Edit) (_ : Unit), pre55 (e, ()) → mu55 (e, ()) < N + 1 → Body55 N e) : Contract Try.prog cfg 55 spec55 :=
  contract_rec (μ := mu55) (l := [(65, spec65)]) cfgOk rfl (⟨c65, trivial⟩) lv55 Try.func55 rfl rfl 1 (fun _ => rfl) (by decide) (fun N ⟨e, _⟩ => hb N e ())
noncomputable def know15 : List (FuncId × Fs U) := [(54, spec54), (23, spec23), (55, spec55)]
def lv15 : Lives U := fun i => match i with
  | 0 => ([(1, [])], [((.loc 1), [])])
  | 1 => ([(2, [])], [])
  | _ => ([], [])
noncomputable abbrev A15 (p : List Nat) := awp cfg (know know15) (drawOk cfg (know know15)) Try.f15.ntmps lv15 (cd Try.f15 p)
theorem vc15 (e : Edit) (Q : AExit → LSt U → Prop) (h : ∀ y_1, y_1 = (e) → ((pre54 (y_1, ())) ∧ (Tr ((decide (0 ≤ leftE y_1 80 3000)) = true)) ∧ ((decide (0 ≤ leftE y_1 80 3000)) = true → pre23 (y_1, 64, ())) ∧ ((Tr ((decide (0 ≤ leftE y_1 80 3000)) = true))) ∧ (Tr ((bif (decide (0 ≤ leftE y_1 80 3000)) then (rightE y_1 64) else false) = true)) ∧ ((bif (decide (0 ≤ leftE y_1 80 3000)) then (rightE y_1 64) else false) = true → pre55 (y_1, ())) ∧ ((Tr ((bif (decide (0 ≤ leftE y_1 80 3000)) then (rightE y_1 64) else false) = true))) ∧ (Q .ret (⟨[(2, .c (.bool (bif (bif (decide (0 ≤ leftE y_1 80 3000)) then (rightE y_1 64) else false) then (lightE y_1) else false)))], [], []⟩ : LSt U)))) :
    A15 [] (⟨[(0, .agg [.int .i64 (Edit.kind e), .int .i64 (Tree.kind (Edit.old e)), .slice (U := U) .u64 (Tree.words (Edit.old e)) .unk, .slice (U := U) .tree (Tree.kids (Edit.old e)) .unk, .int .i64 (Tree.kind (Edit.new e)), .slice (U := U) .u64 (Tree.words (Edit.new e)) .unk, .slice (U := U) .tree (Tree.kids (Edit.new e)) .unk, .slice (U := U) .wedit (Edit.words e) .unk, .slice (U := U) .kid (Edit.kids e) .unk, .int .i64 (Edit.list e), .slice (U := U) .op (Edit.ops e) .unk])], [], []⟩ : LSt U) Q :=
  Eq.mpr (by kernel_rfl) (h _ (reEdit_eq _))
def Body15 (e : Edit)  : Prop := awp cfg (know (know15)) (drawOk cfg (know (know15))) Try.f15.ntmps lv15 (cd Try.f15 []) (entry (args15.can (e, ())) []) (EndsQ cfg Try.f15.ntmps Try.f15.results.toList (res15 (e, ())) [])
theorem make15 (c54 : Contract Try.prog cfg 54 spec54) (c23 : Contract Try.prog cfg 23 spec23) (c55 : Contract Try.prog cfg 55 spec55) (hb : ∀ (e : Edit) (_ : Unit), pre15 (e, ()) → Body15 e) : Contract Try.prog cfg 15 spec15 :=
  contract_flat (l := [(54, spec54), (23, spec23), (55, spec55)]) cfgOk rfl (⟨c54, c23, c55, trivial⟩) lv15 Try.func15 rfl rfl 1 (fun _ => rfl) (by decide) (fun ⟨e, _⟩ => hb e ())
theorem make23_64 (c62 : Contract Try.prog cfg 62 spec62) (c63 : Contract Try.prog cfg 63 spec63) (c104 : Contract Try.prog cfg 104 spec104) (c37 : Contract Try.prog cfg 37 spec37) (c65 : Contract Try.prog cfg 65 spec65) (ha : HB23) (hb : HB64) : Contract Try.prog cfg 23 spec23 ∧ Contract Try.prog cfg 64 spec64 :=
  contract_mut2 (μA := mu23) (μB := mu64) (l := [(62, spec62), (63, spec63), (104, spec104), (37, spec37), (65, spec65)]) cfgOk rfl (⟨c62, c63, c104, c37, c65, trivial⟩) lv23 lv64 Try.func23 Try.func64 rfl rfl rfl rfl 2 3 (fun _ => rfl) (fun _ => rfl) (by decide) (by decide) (fun N ⟨e, d, _⟩ => ha N e d ()) (fun N ⟨list, o, d, _⟩ => hb N list o d ())
end Go.AM.Ytpjenobkibfpcaa

namespace Go.AM.Ytpjenobkibfpcaa
open Go.AM Go.Proofs
theorem wrap_u64 {n : Int} (h0 : 0 ≤ n) (h1 : n < 18446744073709551616) : IntKind.wrap .u64 n = n := by
  simp [IntKind.wrap, IntKind.signed, IntKind.bits]; omega
theorem wrap_u8 {n : Int} (h0 : 0 ≤ n) (h1 : n < 256) : IntKind.wrap .u8 n = n := by
  simp [IntKind.wrap, IntKind.signed, IntKind.bits]; omega
theorem aSet_if {i : Int} {j : Nat} {v : Int} {F G : Nat → Int} (hi : 0 ≤ i) (hv : v = F i.toNat) : aSet i j v (if (j : Int) < i then F j else G j) = if (j : Int) < i + 1 then F j else G j := by
  unfold aSet
  by_cases h : i = j
  · subst h
    rw [if_pos rfl, if_pos (by omega), hv]
    simp
  · rw [if_neg h]
    by_cases h2 : (j : Int) < i
    · rw [if_pos h2, if_pos (by omega)]
    · rw [if_neg h2, if_neg (by omega)]
theorem if_step {i : Int} {j : Nat} {F G : Nat → Int} (h : F i.toNat = G i.toNat) (hi : 0 ≤ i) : (if (j : Int) < i then F j else G j) = if (j : Int) < i + 1 then F j else G j := by
  by_cases h2 : (j : Int) < i
  · rw [if_pos h2, if_pos (by omega)]
  · by_cases h3 : (j : Int) = i
    · subst h3
      rw [if_neg h2, if_pos (by omega)]
      simpa using h.symm
    · rw [if_neg h2, if_neg (by omega)]
theorem byteAt_range (w : Int) (i : Nat) : 0 ≤ byteAt w i ∧ byteAt w i < 256 := by
  unfold byteAt
  omega
theorem div_pow_nonneg {w : Int} (h : 0 ≤ w) (i : Nat) : 0 ≤ w / 256 ^ i := Int.ediv_nonneg h (Int.le_of_lt (Int.pow_pos (by omega)))
theorem div_pow_le {w : Int} (h : 0 ≤ w) (i : Nat) : w / 256 ^ i ≤ w := Int.ediv_le_self _ h
theorem div_pow_succ (w : Int) (i : Nat) : w / 256 ^ i / 256 = w / 256 ^ (i + 1) := by
  rw [Int.ediv_ediv_of_nonneg (Int.le_of_lt (Int.pow_pos (by omega))), Int.pow_succ]
theorem c67 : Contract Try.prog cfg 67 spec67 := by
  refine make67 ?_
  intro w _ hp
  simp only [pre67] at hp
  refine vc67 _ _ ?_; (try simp only [vcT, forall_eq])
  refine loop_rule (ι := Int) (fun i => head67_0 w (w / 256 ^ i.toNat) i (if ((0 : Nat) : Int) < i then byteAt w 0 else 0) (if ((1 : Nat) : Int) < i then byteAt w 1 else 0) (if ((2 : Nat) : Int) < i then byteAt w 2 else 0) (if ((3 : Nat) : Int) < i then byteAt w 3 else 0)
    (if ((4 : Nat) : Int) < i then byteAt w 4 else 0) (if ((5 : Nat) : Int) < i then byteAt w 5 else 0) (if ((6 : Nat) : Int) < i then byteAt w 6 else 0) (if ((7 : Nat) : Int) < i then byteAt w 7 else 0)) (fun i => 0 ≤ i ∧ i ≤ 8) (fun i => (8 - i).toNat) 0 ?_ ⟨by omega, by omega⟩ ?_
  · simp [head67_0]
  · rintro i ⟨h1, h2⟩
    refine vc67_l0 _ _ _ _ _ _ _ _ _ _ _ _ _ ?_; (try simp only [vcT, forall_eq])
    (simp only [vcS]); (try simp only [vcT])
    refine ⟨fun hc => ⟨by omega, ⟨h1, by omega⟩, by omega, by unfold InR; omega, i + 1, ?_, ⟨by omega, by omega⟩, by omega⟩, fun hc => ?_⟩
    · have hd := div_pow_nonneg hp.1 i.toNat
      have hl := div_pow_le hp.1 i.toNat
      have e1 : IntKind.wrap .u64 (Int.tdiv (w / 256 ^ i.toNat) 256) = w / 256 ^ (i + 1).toNat := by
        rw [Int.tdiv_eq_ediv_of_nonneg hd, div_pow_succ, show i.toNat + 1 = (i + 1).toNat by omega]
        exact wrap_u64 (div_pow_nonneg hp.1 _) (Int.lt_of_le_of_lt (div_pow_le hp.1 _) hp.2)
      have e2 : IntKind.wrap .u8 (Int.tmod (w / 256 ^ i.toNat) 256) = byteAt w i.toNat := by
        rw [Int.tmod_eq_emod_of_nonneg hd]
        exact wrap_u8 (byteAt_range w _).1 (byteAt_range w _).2
      rw [e1]
      have st : ∀ j : Nat, aSet i j (IntKind.wrap .u8 (Int.tmod (w / 256 ^ i.toNat) 256)) (if (j : Int) < i then byteAt w j else 0) = if (j : Int) < i + 1 then byteAt w j else 0 := fun j => aSet_if (F := byteAt w) (G := fun _ => 0) h1 e2
      rw [st 0, st 1, st 2, st 3, st 4, st 5, st 6, st 7]
    · have : i = 8 := by omega
      subst this
      simp only [res67]
      exact ⟨⟨rfl, ⟨⟨rfl, rfl⟩, ⟨rfl, rfl⟩, ⟨rfl, rfl⟩, ⟨rfl, rfl⟩, ⟨rfl, rfl⟩, ⟨rfl, rfl⟩, ⟨rfl, rfl⟩, ⟨rfl, rfl⟩, trivial⟩, trivial⟩, trivial⟩
theorem c68 : Contract Try.prog cfg 68 spec68 := by
  refine make68 ?_
  intro m i _ hp
  simp only [pre68] at hp
  refine vc68 _ _ _ ?_; (try simp only [vcT, forall_eq])
  refine loop_rule (ι := Int) (fun k => head68_0 m i (m / 2 ^ k.toNat) k) (fun k => 0 ≤ k ∧ k ≤ i) (fun k => (i - k).toNat) 0 ?_ ⟨by omega, by omega⟩ ?_
  · simp
  · rintro k ⟨h1, h2⟩
    refine vc68_l0 _ _ _ _ _ _ ?_; (try simp only [vcT, forall_eq])
    have hd : 0 ≤ m / 2 ^ k.toNat := Int.ediv_nonneg hp.1.1 (Int.le_of_lt (Int.pow_pos (by omega)))
    have hl : m / 2 ^ k.toNat ≤ m := Int.ediv_le_self _ hp.1.1
    (simp only [vcS])
    refine ⟨fun hc => ⟨by omega, by unfold InR; omega, k + 1, ?_, ⟨by omega, by omega⟩, by omega⟩, fun hc => ⟨by omega, ends_bool rfl ?_⟩⟩
    · have e : IntKind.wrap .u8 (Int.tdiv (m / 2 ^ k.toNat) 2) = m / 2 ^ (k + 1).toNat := by
        rw [Int.tdiv_eq_ediv_of_nonneg hd, Int.ediv_ediv_of_nonneg (Int.le_of_lt (Int.pow_pos (by omega))), show (2 : Int) ^ k.toNat * 2 = 2 ^ (k + 1).toNat by rw [← Int.pow_succ]; congr 1; omega]
        refine wrap_u8 (Int.ediv_nonneg hp.1.1 (Int.le_of_lt (Int.pow_pos (by omega)))) (Int.lt_of_le_of_lt (Int.ediv_le_self _ hp.1.1) hp.1.2)
      rw [e]
    · have : k = i := by omega
      subst this
      rw [Int.tmod_eq_emod_of_nonneg hd]
      rfl
def topN (f : Nat → Int) : Nat → Int
  | 0 => 0
  | k + 1 => f (7 - k) + 256 * topN f k
theorem topN_range {f : Nat → Int} (h : ∀ i, 0 ≤ f i ∧ f i < 256) : ∀ k, 0 ≤ topN f k ∧ topN f k < 256 ^ k
  | 0 => by simp [topN]
  | k + 1 => by
    have := topN_range h k
    have h2 := h (7 - k)
    simp only [topN, Int.pow_succ]
    omega
theorem topN_8 (f : Nat → Int) : topN f 8 = of8 f := by simp [topN, of8]
theorem c69 : Contract Try.prog cfg 69 spec69 := by
  refine make69 ?_
  intro b z _ hp
  obtain ⟨rfl, hl, hb⟩ := hp
  dsimp only at hl hb
  refine vc69 _ _ _ ?_; (try simp only [vcT, forall_eq])
  have hf : ∀ i, 0 ≤ b.getD i 0 ∧ b.getD i 0 < 256 := by
    intro i
    by_cases hi : i < b.length
    · have : b.getD i 0 ∈ b := by
        simp only [List.getD, List.getElem?_eq_getElem hi, Option.getD_some]
        exact List.getElem_mem hi
      exact hb _ this
    · rw [List.getD, List.getElem?_eq_none (by omega)]; simp
  refine loop_rule (ι := Int) (fun i => head69_0 b 0 (topN (fun i => b.getD i 0) (7 - i).toNat) i) (fun i => -1 ≤ i ∧ i ≤ 7) (fun i => (i + 1).toNat) 7 rfl ⟨by omega, by omega⟩ ?_
  rintro i ⟨h1, h2⟩
  refine vc69_l0 _ _ _ _ _ _ ?_; (try simp only [vcT, forall_eq])
  (simp only [vcS]); (try simp only [vcT])
  have hr := topN_range (f := fun i => b.getD i 0) hf (7 - i).toNat
  refine ⟨fun hc => ⟨by unfold InR; omega, by omega, by unfold InR; omega, i - 1, ?_, ⟨by omega, by omega⟩, by omega⟩, fun hc => ends_int rfl ?_⟩
  · have hp7 : (256 : Int) ^ (7 - i).toNat ≤ 256 ^ 7 := by
      have : (256 : Int) ^ (7 - i).toNat = ((256 ^ (7 - i).toNat : Nat) : Int) := by simp
      rw [this]
      have h7 : (256 : Nat) ^ (7 - i).toNat ≤ 256 ^ 7 := Nat.pow_le_pow_right (by omega) (by omega)
      have : ((256 : Nat) ^ 7 : Nat) = 72057594037927936 := by decide
      omega
    have e7 : (256 : Int) ^ 7 = 72057594037927936 := by decide
    have hfi := hf i.toNat
    have e : topN (fun i => b.getD i 0) (7 - (i - 1)).toNat = b.getD i.toNat 0 + 256 * topN (fun i => b.getD i 0) (7 - i).toNat := by
      rw [show (7 - (i - 1)).toNat = (7 - i).toNat + 1 by omega]
      simp only [topN]
      rw [show 7 - (7 - i).toNat = i.toNat by omega]
    rw [e, show (0 + i).toNat = i.toNat by omega, wrap_u64 (n := topN (fun i => b.getD i 0) (7 - i).toNat * 256) (by omega) (by omega), wrap_u64 (n := b.getD i.toNat 0) (by omega) (by omega), wrap_u64 (by omega) (by omega)]
    congr 1
    omega
  · have : i = -1 := by omega
    subst this
    exact topN_8 _
theorem getD8 (f : Nat → Int) {i : Nat} (h : i < 8) : List.getD [f 0, f 1, f 2, f 3, f 4, f 5, f 6, f 7] i 0 = f i := by
  match i, h with
  | 0, _ => rfl
  | 1, _ => rfl
  | 2, _ => rfl
  | 3, _ => rfl
  | 4, _ => rfl
  | 5, _ => rfl
  | 6, _ => rfl
  | 7, _ => rfl
theorem mixAt_range (a b m : Int) (i : Nat) : 0 ≤ mixAt a b m i ∧ mixAt a b m i < 256 := by
  unfold mixAt
  split
  · exact byteAt_range _ _
  · exact byteAt_range _ _
theorem c103 : Contract Try.prog cfg 103 spec103 := by
  refine make103 c67 c68 c69 ?_
  intro a b m _ hp
  simp only [pre103] at hp
  refine vc103 _ _ _ _ ?_; (try simp only [vcT, forall_eq])
  refine ⟨hp.1, hp.2.1, ?_⟩
  refine loop_rule (ι := Int) (fun i => head103_0 a b m i (if ((0 : Nat) : Int) < i then mixAt a b m 0 else byteAt a 0) (if ((1 : Nat) : Int) < i then mixAt a b m 1 else byteAt a 1) (if ((2 : Nat) : Int) < i then mixAt a b m 2 else byteAt a 2) (if ((3 : Nat) : Int) < i then mixAt a b m 3 else byteAt a 3)
    (if ((4 : Nat) : Int) < i then mixAt a b m 4 else byteAt a 4) (if ((5 : Nat) : Int) < i then mixAt a b m 5 else byteAt a 5) (if ((6 : Nat) : Int) < i then mixAt a b m 6 else byteAt a 6) (if ((7 : Nat) : Int) < i then mixAt a b m 7 else byteAt a 7)) (fun i => 0 ≤ i ∧ i ≤ 8) (fun i => (8 - i).toNat) 0 ?_ ⟨by omega, by omega⟩ ?_
  · simp [head103_0]
  · rintro i ⟨h1, h2⟩
    refine vc103_l0 _ _ _ _ _ _ _ _ _ _ _ _ _ _ ?_; (try simp only [vcT, forall_eq])
    (simp only [vcS]); (try simp only [vcT])
    refine ⟨fun hc => ⟨⟨hp.2.2, h1, by dsimp only; omega⟩, fun hn => ⟨⟨h1, by omega⟩, ⟨h1, by omega⟩, by unfold InR; omega, i + 1, ?_, ⟨by omega, by omega⟩, by omega⟩, fun hn => ⟨by unfold InR; omega, i + 1, ?_, ⟨by omega, by omega⟩, by omega⟩⟩, fun hc => ?_⟩
    · rw [getD8 (byteAt b) (by omega)]
      have hv : byteAt b i.toNat = mixAt a b m i.toNat := by
        unfold mixAt
        rw [show ((i.toNat : Nat) : Int) = i by omega, hn]
        rfl
      have st : ∀ j : Nat, aSet i j (byteAt b i.toNat) (if (j : Int) < i then mixAt a b m j else byteAt a j) = if (j : Int) < i + 1 then mixAt a b m j else byteAt a j := fun j => aSet_if (F := mixAt a b m) (G := byteAt a) h1 hv
      rw [st 0, st 1, st 2, st 3, st 4, st 5, st 6, st 7]
    · have hv : mixAt a b m i.toNat = byteAt a i.toNat := by
        unfold mixAt
        rw [show ((i.toNat : Nat) : Int) = i by omega, hn]
        rfl
      have st : ∀ j : Nat, (if (j : Int) < i then mixAt a b m j else byteAt a j) = if (j : Int) < i + 1 then mixAt a b m j else byteAt a j := fun j => if_step (F := mixAt a b m) (G := byteAt a) hv h1
      rw [st 0, st 1, st 2, st 3, st 4, st 5, st 6, st 7]
    · have : i = 8 := by omega
      subst this
      refine ⟨⟨rfl, rfl, ?_⟩, ends_int rfl ?_⟩
      · intro x hx
        simp at hx
        rcases hx with rfl | rfl | rfl | rfl | rfl | rfl | rfl | rfl <;> exact mixAt_range _ _ _ _
      · rfl
end Go.AM.Ytpjenobkibfpcaa

namespace Go.AM.Ytpjenobkibfpcaa
open Go.AM Go.Proofs
theorem drop_getD {α : Type} {l : List α} {i : Nat} (h : i < l.length) (d : α) : l.drop i = l.getD i d :: l.drop (i + 1) := by
  rw [List.drop_eq_getElem_cons h]
  simp [List.getD, h]
theorem dropI {α : Type} {l : List α} {i : Int} (h0 : 0 ≤ i) (h : i < l.length) (d : α) : l.drop i.toNat = l.getD i.toNat d :: l.drop (i + 1).toNat := by
  rw [drop_getD (by omega) d, show i.toNat + 1 = (i + 1).toNat by omega]
theorem mem_getD {α : Type} {l : List α} {i : Nat} (h : i < l.length) (d : α) : l.getD i d ∈ l := by
  simp only [List.getD, List.getElem?_eq_getElem h, Option.getD_some]
  exact List.getElem_mem h
theorem mass_pos (t : Tree) : 1 ≤ mass t := by cases t; simp only [mass]; omega
theorem massE_pos (e : Edit) : 1 ≤ massE e := by cases e; simp only [massE]; omega
theorem massKid_e (k : Kid) : massKid k = massE k.e := by cases k; rfl
theorem massOp_e (o : Op) : massOp o = massK o.l + massE o.e := by cases o; rfl
theorem massK_mem : ∀ {ks : List Tree} {t : Tree}, t ∈ ks → mass t ≤ massK ks
  | x :: r, t, h => by
    simp only [massK]
    rcases List.mem_cons.1 h with rfl | h
    · omega
    · have := massK_mem h; omega
theorem massKs_mem : ∀ {ks : List Kid} {k : Kid}, k ∈ ks → massE k.e ≤ massKs ks
  | x :: r, k, h => by
    simp only [massKs, massKid_e]
    rcases List.mem_cons.1 h with rfl | h
    · omega
    · have := massKs_mem h; omega
theorem massOs_mem : ∀ {os : List Op} {o : Op}, o ∈ os → massOp o ≤ massOs os
  | x :: r, o, h => by
    simp only [massOs]
    rcases List.mem_cons.1 h with rfl | h
    · omega
    · have := massOs_mem h; omega
theorem massKs_len : ∀ (ks : List Kid), ks.length ≤ massKs ks
  | [] => by simp [massKs]
  | k :: r => by
    have := massKs_len r
    have := massE_pos k.e
    simp only [massKs, massKid_e, List.length_cons]
    omega
theorem massOs_len : ∀ (os : List Op), os.length ≤ massOs os
  | [] => by simp [massOs]
  | o :: r => by
    have := massOs_len r
    have := massE_pos o.e
    simp only [massOs, massOp_e, List.length_cons]
    omega
theorem smallK_mem : ∀ {ks : List Tree} {t : Tree}, smallK ks → t ∈ ks → small t
  | x :: r, t, hs, h => by
    simp only [smallK] at hs
    rcases List.mem_cons.1 h with rfl | h
    · exact hs.1
    · exact smallK_mem hs.2 h
theorem smallKs_mem : ∀ {ks : List Kid} {k : Kid}, smallKs ks → k ∈ ks → smallE k.e
  | x :: r, k, hs, h => by
    simp only [smallKs] at hs
    rcases List.mem_cons.1 h with rfl | h
    · have := hs.1; obtain ⟨a, e⟩ := k; exact this
    · exact smallKs_mem hs.2 h
theorem smallOs_mem : ∀ {os : List Op} {o : Op}, smallOs os → o ∈ os → o.l.length ≤ 17592186044416 ∧ smallK o.l ∧ smallE o.e
  | x :: r, o, hs, h => by
    simp only [smallOs] at hs
    rcases List.mem_cons.1 h with rfl | h
    · have := hs.1; obtain ⟨a, b, c, e⟩ := o; exact this
    · exact smallOs_mem hs.2 h
theorem rngK_mem : ∀ {ks : List Tree} {t : Tree}, rngK ks → t ∈ ks → rng t
  | x :: r, t, hs, h => by
    simp only [rngK] at hs
    rcases List.mem_cons.1 h with rfl | h
    · exact hs.1
    · exact rngK_mem hs.2 h
theorem rngKs_mem : ∀ {ks : List Kid} {k : Kid}, rngKs ks → k ∈ ks → isI k.at_ ∧ rngE k.e
  | x :: r, k, hs, h => by
    simp only [rngKs] at hs
    rcases List.mem_cons.1 h with rfl | h
    · have := hs.1; obtain ⟨a, e⟩ := k; exact this
    · exact rngKs_mem hs.2 h
theorem rngOs_mem : ∀ {os : List Op} {o : Op}, rngOs os → o ∈ os → rngOp o
  | x :: r, o, hs, h => by
    simp only [rngOs] at hs
    rcases List.mem_cons.1 h with rfl | h
    · exact hs.1
    · exact rngOs_mem hs.2 h
theorem rngOp_e {o : Op} (h : rngOp o) : isI o.kind ∧ isI o.n ∧ rngK o.l ∧ rngE o.e := by obtain ⟨a, b, c, e⟩ := o; exact h
theorem leftKid_e (k : Kid) (d n : Int) : leftKid k d n = leftE k.e d n := by cases k; rfl
theorem leftOp_e (o : Op) (d n : Int) : leftOp o d n = if shallowK o.l 80 n < 0 then shallowK o.l 80 n else leftE o.e d (shallowK o.l 80 n) := by cases o; rfl
theorem sh1_range (t : Tree) (n : Int) (h : -1 ≤ n) : -1 ≤ sh1 t n ∧ sh1 t n ≤ n := by
  unfold sh1
  split
  · omega
  · have := shallow_range t 80 n; omega
mutual
theorem leftE_range : ∀ (e : Edit) (d n : Int), -1 ≤ leftE e d n ∧ leftE e d n ≤ max n (-1)
  | .mk _ o nw w ks _ os, d, n => by
    simp only [leftE]
    split
    · omega
    · have h1 := shallow_range o 80 (n - 1 - w.length - os.length)
      have h2 := sh1_range nw _ h1.1
      have h3 := leftKs_range ks (d - 1) _ h2.1
      have h4 := leftOs_range os (d - 1) _ h3.1
      omega
theorem leftKs_range : ∀ (ks : List (KidOf Edit)) (d n : Int), -1 ≤ n → -1 ≤ leftKs ks d n ∧ leftKs ks d n ≤ n
  | [], d, n, h => by simp only [leftKs]; omega
  | k :: r, d, n, h => by
    simp only [leftKs]
    split
    · omega
    · have h1 := leftKid_range k d n
      have h2 := leftKs_range r d _ h1.1
      omega
theorem leftKid_range : ∀ (k : KidOf Edit) (d n : Int), -1 ≤ leftKid k d n ∧ leftKid k d n ≤ max n (-1)
  | ⟨_, e⟩, d, n => by
    simp only [leftKid]
    exact leftE_range e d n
theorem leftOs_range : ∀ (os : List (OpOf Edit)) (d n : Int), -1 ≤ n → -1 ≤ leftOs os d n ∧ leftOs os d n ≤ n
  | [], d, n, h => by simp only [leftOs]; omega
  | o :: r, d, n, h => by
    simp only [leftOs]
    split
    · omega
    · have h1 := leftOp_range o d n h
      have h2 := leftOs_range r d _ h1.1
      omega
theorem leftOp_range : ∀ (o : OpOf Edit) (d n : Int), -1 ≤ n → -1 ≤ leftOp o d n ∧ leftOp o d n ≤ n
  | ⟨_, _, l, e⟩, d, n, h => by
    simp only [leftOp]
    have h1 := shallowK_range l 80 n h
    split
    · omega
    · have h2 := leftE_range e d (shallowK l 80 n)
      omega
end
theorem sh1_mass {t : Tree} {n : Int} (h : 0 ≤ sh1 t n) : (mass t : Int) + sh1 t n ≤ n := by
  unfold sh1 at *
  split at h
  · omega
  · rename_i hn
    rw [if_neg hn]
    exact shallow_mass t 80 n h
mutual
theorem leftE_mass : ∀ (e : Edit) (d n : Int), 0 ≤ leftE e d n → (massE e : Int) + leftE e d n ≤ n
  | .mk _ o nw w ks _ os, d, n, h => by
    simp only [leftE] at h ⊢
    split at h
    · omega
    · rename_i hc
      rw [if_neg hc]
      have r1 := shallow_range o 80 (n - 1 - w.length - os.length)
      have r2 := sh1_range nw _ r1.1
      have r3 := leftKs_range ks (d - 1) _ r2.1
      have r4 := leftOs_range os (d - 1) _ r3.1
      have m4 := leftOs_mass os (d - 1) _ h
      have m3 := leftKs_mass ks (d - 1) (sh1 nw (shallow o 80 (n - 1 - w.length - os.length))) (by omega)
      have m2 := sh1_mass (t := nw) (n := shallow o 80 (n - 1 - w.length - os.length)) (by omega)
      have m1 := shallow_mass o 80 (n - 1 - w.length - os.length) (by omega)
      simp only [massE]
      omega
theorem leftKs_mass : ∀ (ks : List (KidOf Edit)) (d n : Int), 0 ≤ leftKs ks d n → (massKs ks : Int) + leftKs ks d n ≤ n
  | [], d, n, h => by simp only [leftKs, massKs]; omega
  | k :: r, d, n, h => by
    simp only [leftKs] at h ⊢
    split at h
    · omega
    · rename_i hc
      rw [if_neg hc]
      have r1 := leftKid_range k d n
      have r2 := leftKs_range r d _ r1.1
      have m2 := leftKs_mass r d _ h
      have m1 := leftKid_mass k d n (by omega)
      simp only [massKs]
      omega
theorem leftKid_mass : ∀ (k : KidOf Edit) (d n : Int), 0 ≤ leftKid k d n → (massKid k : Int) + leftKid k d n ≤ n
  | ⟨_, e⟩, d, n, h => by
    simp only [leftKid, massKid] at h ⊢
    exact leftE_mass e d n h
theorem leftOs_mass : ∀ (os : List (OpOf Edit)) (d n : Int), 0 ≤ leftOs os d n → (massOs os : Int) + leftOs os d n ≤ n
  | [], d, n, h => by simp only [leftOs, massOs]; omega
  | o :: r, d, n, h => by
    simp only [leftOs] at h ⊢
    split at h
    · omega
    · rename_i hc
      rw [if_neg hc]
      have r1 := leftOp_range o d n (by omega)
      have r2 := leftOs_range r d _ r1.1
      have m2 := leftOs_mass r d _ h
      have m1 := leftOp_mass o d n (by omega)
      simp only [massOs]
      omega
theorem leftOp_mass : ∀ (o : OpOf Edit) (d n : Int), 0 ≤ leftOp o d n → (massOp o : Int) + leftOp o d n ≤ n
  | ⟨_, _, l, e⟩, d, n, h => by
    simp only [leftOp, massOp] at h ⊢
    split at h
    · omega
    · rename_i hc
      rw [if_neg hc]
      have m2 := leftE_mass e d _ h
      have r2 := leftE_range e d (shallowK l 80 n)
      have m1 := shallowK_mass l 80 n (by omega)
      omega
end
theorem few_massE {e : Edit} (h : 0 ≤ leftE e 80 3000) : massE e ≤ 3000 := by
  have := leftE_mass e 80 3000 h
  omega
end Go.AM.Ytpjenobkibfpcaa

namespace Go.AM.Ytpjenobkibfpcaa
open Go.AM Go.Proofs
theorem len_mass (t : Tree) : t.words.length + t.kids.length < mass t := by
  obtain ⟨k, w, ks⟩ := t
  have := massK_len ks
  simp only [mass, Tree.words_mk, Tree.kids_mk]
  omega
theorem len_massE (e : Edit) : mass e.old + mass e.new + e.words.length + e.ops.length + massKs e.kids + massOs e.ops < massE e := by
  obtain ⟨k, o, n, w, ks, l, os⟩ := e
  simp only [massE, Edit.old_mk, Edit.new_mk, Edit.words_mk, Edit.ops_mk, Edit.kids_mk]
  omega
theorem c62 : Contract Try.prog cfg 62 spec62 := by
  refine make62 ?_
  intro t _ hp
  simp only [pre62] at hp
  have := len_mass t
  refine vc62 t _ ?_; (try simp only [vcT, forall_eq])
  refine ⟨fun _ => by unfold InR; omega, ends_bool rfl ?_⟩
  rw [Bool.eq_iff_iff]
  simp only [noneT]
  (simp only [vcS])
  omega
theorem c63 : Contract Try.prog cfg 63 spec63 := by
  refine make63 c103 ?_
  intro w m _ hp
  refine vc63 _ _ _ ?_; (try simp only [vcT, forall_eq])
  refine ⟨⟨hp.1, by dsimp only; omega, hp.2⟩, ends_bool rfl ?_⟩
  rfl
theorem c104 : Contract Try.prog cfg 104 spec104 := by
  refine make104 c62 ?_
  intro e _ hp
  simp only [pre104] at hp
  have h1 := len_massE e
  have h2 := massKs_len e.kids
  refine vc104 e _ ?_; (try simp only [vcT, forall_eq])
  try (simp only [Tree.eta, Edit.eta, Tree.kind_mk, Tree.words_mk, Tree.kids_mk])
  refine ⟨fun _ => by simp only [pre62]; omega, fun _ => by simp only [pre62]; omega, fun _ => by unfold InR; omega, fun _ => by unfold InR; omega, ends_bool rfl ?_⟩
  rw [Bool.eq_iff_iff]
  simp only [sameE]
  (simp only [vcS])
  constructor
  · rintro ⟨⟨⟨⟨h3, h4⟩, h5⟩, h6⟩, h7⟩; exact ⟨⟨⟨h3, h4⟩, h5⟩, by omega⟩
  · rintro ⟨⟨⟨h3, h4⟩, h5⟩, h6⟩; exact ⟨⟨⟨⟨h3, h4⟩, h5⟩, by omega⟩, by omega⟩
theorem loop57 (e : Edit) (x4 x5 i : Int) (N0 : LSt U → Prop) (Q : AExit → LSt U → Prop) (h1 : 0 ≤ x4 ∧ x4 ≤ 1048576) (h2 : 0 ≤ x5 ∧ x5 ≤ 1048576) (hi : 0 ≤ i) (hlen : e.ops.length ≤ 20000000000)
    (ho : ∀ o ∈ e.ops, (0 ≤ o.n ∧ o.n ≤ 1048576) ∧ o.l.length ≤ 20000000000)
    (h : i < e.ops.length → N0 (head65_0 e (min (if (e.ops.getD i.toNat Op.nil).kind = 2 then x4 else x4 + opLen (e.ops.getD i.toNat Op.nil)) 1048576) (min (if (e.ops.getD i.toNat Op.nil).kind = 1 then x5 else x5 + opLen (e.ops.getD i.toNat Op.nil)) 1048576) (i + 1)))
    (h' : ¬i < e.ops.length → Q .ret (⟨[(2, .c (.int .i64 x4)), (3, .c (.int .i64 x5))], [], []⟩ : LSt U)) : W65_l0 e x4 x5 i N0 Q := by
  refine vc65_l0 _ _ _ _ _ _ ?_; (try simp only [vcT, forall_eq])
  (simp only [vcS]); (try simp only [vcT])
  refine ⟨fun hc => ?_, h'⟩
  have hn := h hc
  have hm := ho _ (mem_getD (l := e.ops) (i := i.toNat) (by omega) Op.nil)
  have k1 : ∀ k, k = opLen (e.ops.getD i.toNat Op.nil) → W65_c1 e x4 x5 i k N0 Q := by
    intro k hk
    have hkr : 0 ≤ k ∧ k ≤ 60000000000 := by
      rw [hk]; unfold opLen; split <;> omega
    have k2 : ∀ y, y = (if (e.ops.getD i.toNat Op.nil).kind = 2 then x4 else x4 + k) → W65_c2 e x5 i k y N0 Q := by
      intro y hy
      have hyr : 0 ≤ y ∧ y ≤ 100000000000 := by rw [hy]; split <;> omega
      have k3 : ∀ z, z = (if (e.ops.getD i.toNat Op.nil).kind = 1 then x5 else x5 + k) → W65_c3 e i k y z N0 Q := by
        intro z hz
        have hzr : 0 ≤ z ∧ z ≤ 100000000000 := by rw [hz]; split <;> omega
        have k4 : ∀ u, u = min y 1048576 → W65_c4 e i y z u N0 Q := by
          intro u hu
          refine vc65_c4 _ _ _ _ _ _ _ ?_; (try simp only [vcT, forall_eq])
          (simp only [vcS]); (try simp only [vcT])
          rw [← hk, ← hy, ← hz, ← hu] at hn
          refine ⟨fun hq => ⟨by unfold InR; omega, ?_⟩, fun hq => ⟨by unfold InR; omega, ?_⟩⟩
          · rw [show min z 1048576 = 1048576 by omega] at hn; exact hn
          · rw [show min z 1048576 = z by omega] at hn; exact hn
        refine vc65_c3 _ _ _ _ _ _ _ ?_; (try simp only [vcT, forall_eq])
        (simp only [vcS]); (try simp only [vcT])
        exact ⟨fun hq => k4 _ (by omega), fun hq => k4 _ (by omega)⟩
      refine vc65_c2 _ _ _ _ _ _ _ ?_; (try simp only [vcT, forall_eq])
      (simp only [vcS]); (try simp only [vcT])
      exact ⟨fun hq => ⟨by unfold InR; omega, k3 _ (by rw [if_neg hq])⟩, fun hq => k3 _ (by rw [if_pos hq])⟩
    refine vc65_c1 _ _ _ _ _ _ _ ?_; (try simp only [vcT, forall_eq])
    (simp only [vcS]); (try simp only [vcT])
    exact ⟨fun hq => ⟨by unfold InR; omega, k2 _ (by rw [if_neg hq])⟩, fun hq => k2 _ (by rw [if_pos hq])⟩
  exact ⟨⟨hi, hc⟩, by unfold InR; omega, fun hq => k1 _ (by unfold opLen; rw [if_pos hq]), fun hq => k1 _ (by unfold opLen; rw [if_neg hq])⟩
theorem c65 : Contract Try.prog cfg 65 spec65 := by
  refine make65 ?_
  intro e _ hp
  simp only [pre65] at hp
  have h1 := len_massE e
  refine vc65 e _ ?_; (try simp only [vcT, forall_eq])
  refine loop_rule (ι := Int × Int × Int) (fun p => head65_0 e p.1 p.2.1 p.2.2) (fun p => 0 ≤ p.2.2 ∧ p.2.2 ≤ e.ops.length ∧ (0 ≤ p.1 ∧ p.1 ≤ 1048576) ∧ (0 ≤ p.2.1 ∧ p.2.1 ≤ 1048576) ∧ lenA (e.ops.drop p.2.2.toNat) p.1 = lenA e.ops 0 ∧ lenB (e.ops.drop p.2.2.toNat) p.2.1 = lenB e.ops 0) (fun p => ((e.ops.length : Int) - p.2.2).toNat) (0, 0, 0) rfl ⟨by dsimp only; omega, by dsimp only; omega, by dsimp only; omega, by dsimp only; omega, by simp, by simp⟩ ?_
  rintro ⟨x4, x5, i⟩ ⟨h2, h3, h4, h5, h6, h7⟩
  dsimp only at *
  have ho : ∀ o ∈ e.ops, (0 ≤ o.n ∧ o.n ≤ 1048576) ∧ o.l.length ≤ 20000000000 := by
    intro o hm
    refine ⟨hp.2 o hm, ?_⟩
    have a1 := massOs_mem hm
    have a2 := massK_len o.l
    rw [massOp_e] at a1
    omega
  refine loop57 e x4 x5 i _ _ h4 h5 h2 (by omega) ho (fun hc => ⟨(_, _, i + 1), rfl, ⟨by dsimp only; omega, by dsimp only; omega, ?_, ?_, ?_, ?_⟩, by dsimp only; omega⟩) (fun hc => ?_)
  · have hm := ho _ (mem_getD (l := e.ops) (i := i.toNat) (by omega) Op.nil)
    dsimp only
    unfold opLen
    split <;> (try split) <;> omega
  · have hm := ho _ (mem_getD (l := e.ops) (i := i.toNat) (by omega) Op.nil)
    dsimp only
    unfold opLen
    split <;> (try split) <;> omega
  · rw [dropI h2 hc Op.nil] at h6
    exact h6
  · rw [dropI h2 hc Op.nil] at h7
    exact h7
  · rw [List.drop_of_length_le (by omega)] at h6 h7
    simp only [lenA, lenB] at h6 h7
    simp only [res65, ← h6, ← h7]
    exact ⟨⟨rfl, ⟨⟨rfl, rfl⟩, trivial⟩, rfl, ⟨⟨rfl, rfl⟩, trivial⟩, trivial⟩, trivial⟩
theorem leftKs_neg {l : List Kid} {d n : Int} (h : n < 0) : leftKs l d n = n := by cases l <;> simp [leftKs, h]
theorem leftOs_neg {l : List Op} {d n : Int} (h : n < 0) : leftOs l d n = n := by cases l <;> simp [leftOs, h]
theorem shallowK_neg {l : List Tree} {d n : Int} (h : n < 0) : shallowK l d n = n := by cases l <;> simp [shallowK, h]
theorem smallE_at {e : Edit} (h : smallE e) : small e.old ∧ small e.new ∧ e.words.length ≤ 17592186044416 ∧ e.kids.length ≤ 17592186044416 ∧ e.ops.length ≤ 17592186044416 ∧ smallKs e.kids ∧ smallOs e.ops := by
  obtain ⟨k, o, n, w, ks, l, os⟩ := e; exact h
theorem leftE_at (e : Edit) (d n : Int) : leftE e d n = if d = 0 ∨ n - 1 - e.words.length - e.ops.length < 0 then -1 else leftOs e.ops (d - 1) (leftKs e.kids (d - 1) (sh1 e.new (shallow e.old 80 (n - 1 - e.words.length - e.ops.length)))) := by
  obtain ⟨k, o, nw, w, ks, l, os⟩ := e; rfl
theorem c90 : Contract Try.prog cfg 90 spec90 := by
  refine make90 c78 ?_
  rintro N e d n _ hp hN
  simp only [pre90, mu90] at hp hN
  obtain ⟨hs, hd0, hd1, hn0, hn1⟩ := hp
  obtain ⟨so, sn, lw, lk, lo, sk, sos⟩ := smallE_at hs
  have hme := len_massE e
  have hres := leftE_at e d n
  refine vc90 N e d n _ ?_; (try simp only [vcT, forall_eq])
  (simp only [vcS]); (try simp only [vcT])
  try (simp only [Tree.eta, Edit.eta, Tree.kind_mk, Tree.words_mk, Tree.kids_mk])
  refine ⟨by unfold InR; omega, by unfold InR; omega, by unfold InR; omega, fun hc => ends_int rfl (by rw [hres, if_pos hc]), fun hc => ?_⟩
  rw [if_neg (by omega)] at hres
  have r1 := shallow_range e.old 80 (n - 1 - e.words.length - e.ops.length)
  have p68 : ∀ t m, small t → -1 ≤ m → m ≤ 4611686018427387904 → pre78 (t, 80, m, ()) := fun t m h1 h2 h3 => ⟨h1, by dsimp only; omega, by dsimp only; omega, h2, h3⟩
  have k0 : ∀ x, x = sh1 e.new (shallow e.old 80 (n - 1 - e.words.length - e.ops.length)) → W90_c0 N e d n x (EndsQ cfg Try.f90.ntmps Try.f90.results.toList (res90 (e, d, n, ())) []) := by
    intro x hx
    have rx := sh1_range e.new _ r1.1
    rw [← hx] at rx hres
    refine vc90_c0 N e d n x _ ?_; (try simp only [vcT, forall_eq])
    refine loop_rule (ι := Int × Int) (fun p => head90_1 e d n p.1 p.2) (fun p => 0 ≤ p.2 ∧ p.2 ≤ e.kids.length ∧ -1 ≤ p.1 ∧ p.1 ≤ 4611686018427387904 ∧ leftKs (e.kids.drop p.2.toNat) (d - 1) p.1 = leftKs e.kids (d - 1) x) (fun p => ((e.kids.length : Int) - p.2).toNat) (x, 0) rfl ⟨by dsimp only; omega, by dsimp only; omega, by dsimp only; omega, by dsimp only; omega, by simp⟩ ?_
    rintro ⟨y, i⟩ ⟨h1, h2, h3, h4, h5⟩
    dsimp only at *
    refine vc90_l1 N e d n y i _ _ ?_; (try simp only [vcT, forall_eq])
    (simp only [vcS]); (try simp only [vcT])
    try (simp only [Tree.eta, Edit.eta, Tree.kind_mk, Tree.words_mk, Tree.kids_mk])
    refine ⟨fun hi => ?_, fun hi => ?_⟩
    · have hmem := mem_getD (l := e.kids) (i := i.toNat) (by omega) (KidOf.mk 0 Edit.nil)
      have hsm := smallKs_mem sk hmem
      have hmm := massKs_mem hmem
      rw [dropI h1 hi.1 (KidOf.mk 0 Edit.nil)] at h5
      simp only [leftKs] at h5
      rw [if_neg (by omega), leftKid_e] at h5
      have rr := leftE_range (e.kids.getD i.toNat (KidOf.mk 0 Edit.nil)).e (d - 1) y
      exact ⟨⟨h1, hi.1⟩, by unfold InR; omega, ⟨hsm, by dsimp only; omega, by dsimp only; omega, h3, h4⟩, by simp only [mu90]; omega, by unfold InR; omega, (_, i + 1), rfl, ⟨by dsimp only; omega, by dsimp only; omega, by dsimp only; omega, by dsimp only; omega, h5⟩, by dsimp only; omega⟩
    · have hy : leftKs e.kids (d - 1) x = y := by
        rw [← h5]
        by_cases hlt : i < e.kids.length
        · exact leftKs_neg (by omega)
        · rw [List.drop_of_length_le (by omega)]; rfl
      rw [hy] at hres
      refine loop_rule (ι := Int × Int) (fun p => head90_2 e d n p.1 p.2) (fun p => 0 ≤ p.2 ∧ p.2 ≤ e.ops.length ∧ -1 ≤ p.1 ∧ p.1 ≤ 4611686018427387904 ∧ leftOs (e.ops.drop p.2.toNat) (d - 1) p.1 = leftOs e.ops (d - 1) y) (fun p => ((e.ops.length : Int) - p.2).toNat) (y, 0) rfl ⟨by dsimp only; omega, by dsimp only; omega, h3, h4, by simp⟩ ?_
      rintro ⟨z, j⟩ ⟨h6, h7, h8, h9, h10⟩
      dsimp only at *
      refine vc90_l2 N e d n z j _ _ ?_; (try simp only [vcT, forall_eq])
      (simp only [vcS]); (try simp only [vcT])
      refine ⟨fun hj => ?_, fun hj => ?_⟩
      · have hmem := mem_getD (l := e.ops) (i := j.toNat) (by omega) Op.nil
        have hsm := smallOs_mem sos hmem
        have hmm := massOs_mem hmem
        rw [massOp_e] at hmm
        rw [dropI h6 hj.1 Op.nil] at h10
        simp only [leftOs] at h10
        rw [if_neg (by omega), leftOp_e] at h10
        refine loop_rule (ι := Int × Int) (fun p => head90_3 e d n j p.1 p.2) (fun p => 0 ≤ p.2 ∧ p.2 ≤ (e.ops.getD j.toNat Op.nil).l.length ∧ -1 ≤ p.1 ∧ p.1 ≤ 4611686018427387904 ∧ shallowK ((e.ops.getD j.toNat Op.nil).l.drop p.2.toNat) 80 p.1 = shallowK (e.ops.getD j.toNat Op.nil).l 80 z) (fun p => (((e.ops.getD j.toNat Op.nil).l.length : Int) - p.2).toNat) (z, 0) rfl ⟨by dsimp only; omega, by dsimp only; omega, h8, h9, by simp⟩ ?_
        rintro ⟨u, k⟩ ⟨g1, g2, g3, g4, g5⟩
        dsimp only at *
        refine vc90_l3 N e d n j u k _ _ _ ?_; (try simp only [vcT, forall_eq])
        (simp only [vcS]); (try simp only [vcT])
        try (simp only [Tree.eta, Edit.eta, Tree.kind_mk, Tree.words_mk, Tree.kids_mk])
        refine ⟨⟨h6, hj.1⟩, fun hk => ?_, fun hk => ?_⟩
        · have hmt := mem_getD (l := (e.ops.getD j.toNat Op.nil).l) (i := k.toNat) (by omega) Tree.nil
          rw [dropI g1 hk.1 Tree.nil] at g5
          simp only [shallowK] at g5
          rw [if_neg (by omega)] at g5
          have rr := shallow_range ((e.ops.getD j.toNat Op.nil).l.getD k.toNat Tree.nil) 80 u
          exact ⟨⟨h6, hj.1⟩, ⟨g1, hk.1⟩, p68 _ _ (smallK_mem hsm.2.1 hmt) g3 g4, by unfold InR; omega, (_, k + 1), rfl, ⟨by dsimp only; omega, by dsimp only; omega, by dsimp only; omega, by dsimp only; omega, g5⟩, by dsimp only; omega⟩
        · have hu : shallowK (e.ops.getD j.toNat Op.nil).l 80 z = u := by
            rw [← g5]
            by_cases hlt : k < (e.ops.getD j.toNat Op.nil).l.length
            · exact shallowK_neg (by omega)
            · rw [List.drop_of_length_le (by omega)]; rfl
          rw [hu] at h10
          have rr := leftE_range (e.ops.getD j.toNat Op.nil).e (d - 1) u
          refine ⟨fun hq => ⟨⟨h6, hj.1⟩, by unfold InR; omega, ⟨hsm.2.2, by dsimp only; omega, by dsimp only; omega, g3, g4⟩, by simp only [mu90]; omega, by unfold InR; omega, (_, j + 1), rfl, ⟨by dsimp only; omega, by dsimp only; omega, by dsimp only; omega, by dsimp only; omega, ?_⟩, by dsimp only; omega⟩,
            fun hq => ⟨by unfold InR; omega, (_, j + 1), rfl, ⟨by dsimp only; omega, by dsimp only; omega, by dsimp only; omega, by dsimp only; omega, ?_⟩, by dsimp only; omega⟩⟩
          · rw [if_neg (by omega)] at h10; exact h10
          · rw [if_pos (by omega)] at h10; exact h10
      · refine ends_int rfl ?_
        rw [hres, ← h10]
        by_cases hlt : j < e.ops.length
        · exact (leftOs_neg (by omega)).symm
        · rw [List.drop_of_length_le (by omega)]; rfl
  refine ⟨p68 _ _ so (by omega) (by omega), fun hq => ⟨p68 _ _ sn r1.1 (by omega), k0 _ ?_⟩, fun hq => k0 _ ?_⟩
  · unfold sh1; rw [if_neg (by omega)]
  · unfold sh1; rw [if_pos (by omega)]
theorem c54 : Contract Try.prog cfg 54 spec54 := by
  refine make54 c90 ?_
  intro e _ hp
  refine vc54 e _ ?_; (try simp only [vcT, forall_eq])
  try (simp only [Tree.eta, Edit.eta, Tree.kind_mk, Tree.words_mk, Tree.kids_mk])
  exact ⟨⟨hp, by dsimp only; omega, by dsimp only; omega, by dsimp only; omega, by dsimp only; omega⟩, ends_bool rfl rfl⟩
end Go.AM.Ytpjenobkibfpcaa

namespace Go.AM.Ytpjenobkibfpcaa
open Go.AM Go.Proofs
theorem rightE_at (e : Edit) (d : Int) : rightE e d =
    if d = 0 ∨ e.kind < 0 ∨ 3 < e.kind then false
    else if (e.kind ≠ 1 ∧ ¬(noneT e.old = true ∧ noneT e.new = true)) ∨ (e.kind ≠ 2 ∧ ¬(e.words.length = 0 ∧ e.kids.length = 0)) ∨ (e.kind ≠ 3 ∧ (e.list ≠ 0 ∨ e.ops.length ≠ 0)) then false
    else if e.kind = 1 then rightT e.old (dT d) && rightT e.new (dT d) && decide (e.old.kind ≠ 10 ∧ e.new.kind ≠ 10)
    else wordsOk (-1) e.words && rightKs (-1) e.kids (d - 1) && decide (¬(e.kind = 3 ∧ (e.list < 2 ∨ 9 < e.list))) && rightOs e.list e.ops (d - 1) && decide (lenA e.ops 0 < 1048576 ∧ lenB e.ops 0 < 1048576) := by
  obtain ⟨k, o, nw, w, ks, l, os⟩ := e; rfl
theorem rightKid_at (last : Int) (k : Kid) (d : Int) : rightKid last k d = (decide (last < k.at_ ∧ k.at_ ≤ 65534 ∧ k.e.kind ≠ 0) && rightE k.e d) := by cases k; rfl
theorem rightOp_at (list : Int) (o : Op) (d : Int) : rightOp list o d =
    if o.kind = 0 then decide (1 ≤ o.n ∧ o.n ≤ 1048576 ∧ o.l.length = 0) && sameE o.e
    else if o.n ≠ 0 ∨ o.kind < 0 ∨ 3 < o.kind then false
    else if o.kind < 3 then treesG (dT d) list o.l && decide (0 < o.l.length) && sameE o.e
    else decide (o.l.length = 0 ∧ o.e.kind ≠ 0 ∧ 7 < list) && rightE o.e d && decide (list = 8 ∨ o.e.kind = 2 ∨ o.e.kind = 1 ∧ o.e.old.kind = 1 ∧ o.e.new.kind = 1) := by
  cases o; rfl
theorem rightOp_n {list : Int} {o : Op} {d : Int} (h : rightOp list o d = true) : 0 ≤ o.n ∧ o.n ≤ 1048576 := by
  rw [rightOp_at] at h
  split at h
  · simp only [Bool.and_eq_true, decide_eq_true_eq] at h; omega
  · split at h
    · cases h
    · rename_i h1; omega
theorem rightOs_mem {list d : Int} : ∀ {os : List Op} {o : Op}, rightOs list os d = true → o ∈ os → rightOp list o d = true
  | x :: r, o, h, hm => by
    simp only [rightOs, Bool.and_eq_true] at h
    rcases List.mem_cons.1 hm with rfl | hm
    · exact h.1
    · exact rightOs_mem h.2 hm
theorem rightKs_mem {d : Int} : ∀ {ks : List Kid} {last : Int} {k : Kid}, rightKs last ks d = true → k ∈ ks → rightE k.e d = true ∧ k.e.kind ≠ 0
  | x :: r, last, k, h, hm => by
    simp only [rightKs, Bool.and_eq_true] at h
    rcases List.mem_cons.1 hm with rfl | hm
    · have := h.1; rw [rightKid_at] at this; simp only [Bool.and_eq_true, decide_eq_true_eq] at this; exact ⟨this.2, this.1.2.2⟩
    · exact rightKs_mem h.2 hm
theorem rngE_at {e : Edit} (h : rngE e) : isI e.kind ∧ rng e.old ∧ rng e.new ∧ (∀ x ∈ e.words, rngW x) ∧ isI e.list ∧ rngKs e.kids ∧ rngOs e.ops := by
  obtain ⟨k, o, n, w, ks, l, os⟩ := e; exact h
theorem b23 : HB23 := by
  intro N e d _ hp hN
  simp only [pre23, mu23] at hp hN
  obtain ⟨⟨hm, hr⟩, hd0, hd1⟩ := hp
  obtain ⟨ik, ro, rn, rw', il, rk, ros⟩ := rngE_at hr
  have hme := len_massE e
  have hkl := massKs_len e.kids
  have hol := massOs_len e.ops
  have hat := rightE_at e d
  rw [dT_nn hd0] at hat
  refine vc23 N e d _ ?_; (try simp only [vcT, forall_eq])
  (simp only [vcS]); (try simp only [vcT]); (try simp only [vcU])
  try (simp only [Tree.eta, Edit.eta, Tree.kind_mk, Tree.words_mk, Tree.kids_mk])
  refine ⟨fun hc => ends_bool rfl (by rw [hat, if_pos (by omega)]), fun hc => ?_⟩
  rw [if_neg (by omega)] at hat
  refine ⟨fun _ => by simp only [pre62]; omega, fun _ => by simp only [pre62]; omega, fun _ => by unfold InR; omega, fun hf => ends_bool rfl ?_, fun hf => ⟨fun h1 => ⟨⟨by dsimp only; omega, ro, by dsimp only; omega, by dsimp only; omega⟩, fun _ => ⟨by dsimp only; omega, rn, by dsimp only; omega, by dsimp only; omega⟩, ends_bool rfl ?_⟩, fun h1 => ?_⟩⟩
  · rw [hat, if_pos]
    rcases hf with (hf | hf) | hf
    · left
      refine ⟨hf.1, fun h => ?_⟩
      rcases hf.2 with h2 | h2
      · rw [h.1] at h2; cases h2
      · rw [h.2] at h2; cases h2
    · right; left; omega
    · right; right; omega
  · rw [hat, if_neg, if_pos h1, Bool.eq_iff_iff]
    · (simp only [vcS])
      constructor
      · rintro ⟨⟨⟨h2, h3⟩, h4⟩, h5⟩; exact ⟨⟨h2, h3⟩, h4, h5⟩
      · rintro ⟨⟨h2, h3⟩, h4, h5⟩; exact ⟨⟨⟨h2, h3⟩, h4⟩, h5⟩
    · intro h
      rcases h with h | h | h
      · exact h.1 h1
      · omega
      · omega
  · rw [if_neg, if_neg h1] at hat
    · refine loop_rule (ι := Int × Int) (fun p => head23_0 e d p.1 p.2) (fun p => 0 ≤ p.2 ∧ p.2 ≤ e.words.length ∧ wordsOk p.1 (e.words.drop p.2.toNat) = wordsOk (-1) e.words) (fun p => ((e.words.length : Int) - p.2).toNat) (-1, 0) rfl ⟨by dsimp only; omega, by dsimp only; omega, by simp⟩ ?_
      rintro ⟨last, i⟩ ⟨h2, h3, h4⟩
      dsimp only at *
      refine vc23_l0 N e d last i _ _ ?_; (try simp only [vcT, forall_eq])
      (simp only [vcS]); (try simp only [vcT]); (try simp only [vcU])
      try (simp only [Tree.eta, Edit.eta, Tree.kind_mk, Tree.words_mk, Tree.kids_mk])
      refine ⟨fun hi => ?_, fun hi => ?_⟩
      · have hmem := mem_getD (l := e.words) (i := i.toNat) (by omega) (WEdit.mk 0 0 0 0)
        have hrw := rw' _ hmem
        rw [dropI h2 hi (WEdit.mk 0 0 0 0)] at h4
        simp only [wordsOk] at h4
        generalize e.words.getD i.toNat (WEdit.mk 0 0 0 0) = w at *
        obtain ⟨_, hmk, hwo, hwn⟩ := hrw
        refine ⟨⟨h2, hi⟩, fun _ => ⟨hwo, hmk⟩, fun _ => ⟨hwn, hmk⟩, fun hq => ends_bool rfl ?_, fun hq => ⟨by unfold InR; omega, (_, i + 1), rfl, ⟨by dsimp only; omega, by dsimp only; omega, ?_⟩, by dsimp only; omega⟩⟩
        · rw [hat, ← h4]
          rcases hq with (hq | hq) | hq
          · rw [decide_eq_false (by omega)]; rfl
          · rw [hq]; simp
          · rw [hq]; simp
        · dsimp only
          rw [← h4, decide_eq_true (by omega), hq.1.2, hq.2]; rfl
      · have hw : wordsOk (-1) e.words = true := by
          rw [← h4, List.drop_of_length_le (by omega)]; rfl
        rw [hw, Bool.true_and] at hat
        refine loop_rule (ι := Int × Int) (fun p => head23_1 e d p.1 p.2) (fun p => 0 ≤ p.2 ∧ p.2 ≤ e.kids.length ∧ rightKs p.1 (e.kids.drop p.2.toNat) (d - 1) = rightKs (-1) e.kids (d - 1)) (fun p => ((e.kids.length : Int) - p.2).toNat) (-1, 0) rfl ⟨by dsimp only; omega, by dsimp only; omega, by simp⟩ ?_
        rintro ⟨last, i⟩ ⟨h2, h3, h4⟩
        dsimp only at *
        refine vc23_l1 N e d last i _ _ ?_; (try simp only [vcT, forall_eq])
        (simp only [vcS]); (try simp only [vcT]); (try simp only [vcU])
        try (simp only [Tree.eta, Edit.eta, Tree.kind_mk, Tree.words_mk, Tree.kids_mk])
        refine ⟨fun hi => ?_, fun hi => ?_⟩
        · have hmem := mem_getD (l := e.kids) (i := i.toNat) (by omega) (KidOf.mk 0 Edit.nil)
          have hrw := rngKs_mem rk hmem
          have hmm := massKs_mem hmem
          rw [dropI h2 hi (KidOf.mk 0 Edit.nil)] at h4
          simp only [rightKs, rightKid_at] at h4
          generalize e.kids.getD i.toNat (KidOf.mk 0 Edit.nil) = w at *
          refine ⟨⟨h2, hi⟩, fun _ => by unfold InR; omega, fun _ => ⟨⟨by dsimp only; omega, hrw.2⟩, by dsimp only; omega, by dsimp only; omega⟩, fun _ => by simp only [mu23]; omega, fun hq => ends_bool rfl ?_, fun hq => ⟨by unfold InR; omega, (_, i + 1), rfl, ⟨by dsimp only; omega, by dsimp only; omega, ?_⟩, by dsimp only; omega⟩⟩
          · rw [hat, ← h4]
            rcases hq with hq | hq
            · rw [decide_eq_false (by omega)]; rfl
            · rw [hq]; simp
          · dsimp only
            rw [← h4, decide_eq_true (by omega), hq.2]; rfl
        · have hw : rightKs (-1) e.kids (d - 1) = true := by
            rw [← h4, List.drop_of_length_le (by omega)]; rfl
          rw [hw, Bool.true_and] at hat
          refine ⟨fun hq => ends_bool rfl (by rw [hat, decide_eq_false (by omega)]; rfl), fun hq => ?_⟩
          rw [decide_eq_true (by omega), Bool.true_and] at hat
          refine loop_rule (ι := Int) (fun p => head23_2 e d p) (fun p => 0 ≤ p ∧ p ≤ e.ops.length ∧ rightOs e.list (e.ops.drop p.toNat) (d - 1) = rightOs e.list e.ops (d - 1)) (fun p => ((e.ops.length : Int) - p).toNat) 0 rfl ⟨by omega, by omega, by simp⟩ ?_
          rintro j ⟨h5, h6, h7⟩
          refine vc23_l2 N e d j _ _ ?_; (try simp only [vcT, forall_eq])
          (simp only [vcS]); (try simp only [vcT]); (try simp only [vcU])
          try (simp only [Tree.eta, Edit.eta, Tree.kind_mk, Tree.words_mk, Tree.kids_mk])
          refine ⟨fun hj => ?_, fun hj => ?_⟩
          · have hmem := mem_getD (l := e.ops) (i := j.toNat) (by omega) Op.nil
            have hro := rngOs_mem ros hmem
            have hmm := massOs_mem hmem
            rw [dropI h5 hj Op.nil] at h7
            simp only [rightOs] at h7
            generalize e.ops.getD j.toNat Op.nil = o at *
            refine ⟨⟨h5, hj⟩, by unfold InR; omega, ⟨⟨by show massOp o ≤ 20000000000; omega, hro, il⟩, by dsimp only; omega, by dsimp only; omega⟩, ?_, fun hq => ends_bool rfl ?_, fun hq => ⟨by unfold InR; omega, j + 1, rfl, ⟨by omega, by omega, ?_⟩, by omega⟩⟩
            · show 2 * massOp o + 1 < N
              omega
            · have hq' : rightOp e.list o (d - 1) = false := hq
              rw [hat, ← h7, hq']; rfl
            · have hq' : rightOp e.list o (d - 1) = true := hq
              rw [← h7, hq']; rfl
          · have hw : rightOs e.list e.ops (d - 1) = true := by
              rw [← h7, List.drop_of_length_le (by omega)]; rfl
            rw [hw, Bool.true_and] at hat
            refine ⟨⟨hm, fun o ho => rightOp_n (rightOs_mem hw ho)⟩, ends_bool rfl ?_⟩
            rw [hat, Bool.eq_iff_iff]
            (simp only [vcS])
    · intro h
      rcases h with h | h | h
      · rcases hf.1.1 with h2 | h2
        · exact h1 h2
        · exact h.2 h2
      · omega
      · omega
theorem drop_take_one {l : List Tree} {i : Int} (h0 : 0 ≤ i) (h : i < l.length) : List.drop i.toNat (l.take (i + 1).toNat) = [l.getD i.toNat Tree.nil] := by
  rw [List.drop_take, show (i + 1).toNat - i.toNat = 1 by omega, dropI h0 h Tree.nil]
  rfl
theorem b64 : HB64 := by
  intro N list o d _ hp hN
  simp only [pre64, mu64] at hp hN
  obtain ⟨⟨hm, hr, hil⟩, hd0, hd1⟩ := hp
  obtain ⟨ik, inn, rl, re⟩ := rngOp_e hr
  rw [massOp_e] at hm hN
  have hll := massK_len o.l
  have hep := massE_pos o.e
  have hat := rightOp_at list o d
  rw [dT_nn hd0, treesG_64] at hat
  refine vc64 N list o d _ ?_; (try simp only [vcT, forall_eq])
  (simp only [vcS]); (try simp only [vcT]); (try simp only [vcU])
  try (simp only [Tree.eta, Edit.eta, Tree.kind_mk, Tree.words_mk, Tree.kids_mk])
  refine ⟨fun h0 => ⟨fun _ => by simp only [pre104]; omega, ends_bool rfl ?_⟩, fun h0 => ⟨fun hc => ends_bool rfl ?_, fun hc => ⟨fun h3 => ?_, fun h3 => ⟨fun _ => ⟨⟨by dsimp only; omega, re⟩, hd0, hd1⟩, fun _ => by simp only [mu23]; omega, fun hq => ends_bool rfl ?_, fun hq => ends_bool rfl ?_⟩⟩⟩⟩
  · rw [hat, if_pos h0, Bool.eq_iff_iff]
    (simp only [vcS])
    constructor
    · rintro ⟨h1, h2⟩; exact ⟨by omega, h2⟩
    · rintro ⟨h1, h2⟩; exact ⟨by omega, h2⟩
  · rw [hat, if_neg h0, if_pos (by omega)]
  · rw [if_neg h0, if_neg (by omega), if_pos h3] at hat
    refine loop_rule (ι := Int) (fun p => head64_0 list o d p) (fun p => 0 ≤ p ∧ p ≤ o.l.length ∧ treesOk list (o.l.drop p.toNat) = treesOk list o.l) (fun p => ((o.l.length : Int) - p).toNat) 0 rfl ⟨by omega, by omega, by simp⟩ ?_
    rintro i ⟨h4, h5, h6⟩
    refine vc64_l0 N list o d i _ _ ?_; (try simp only [vcT, forall_eq])
    (simp only [vcS]); (try simp only [vcT]); (try simp only [vcU])
    try (simp only [Tree.eta, Edit.eta, Tree.kind_mk, Tree.words_mk, Tree.kids_mk])
    refine ⟨fun hi => ?_, fun hi => ?_⟩
    · have hmem := mem_getD (l := o.l) (i := i.toNat) (by omega) Tree.nil
      have hrt := rngK_mem rl hmem
      have hmt := massK_mem hmem
      rw [drop_take_one h4 hi]
      rw [dropI h4 hi Tree.nil] at h6
      simp only [treesOk] at h6
      generalize o.l.getD i.toNat Tree.nil = t at *
      refine ⟨by unfold InR; omega, by omega, ⟨by simp only [mass, massK, List.length_nil]; omega, ⟨hil, fun x hx => (by cases hx), hrt, trivial⟩, by dsimp only; omega, by dsimp only; omega⟩, fun hq => ends_bool rfl ?_, fun hq => ⟨by unfold InR; omega, i + 1, rfl, ⟨by omega, by omega, ?_⟩, by omega⟩⟩
      · rw [hat, ← h6, hq]; rfl
      · rw [← h6, hq]; rfl
    · have hw : treesOk list o.l = true := by
        rw [← h6, List.drop_of_length_le (by omega)]; rfl
      rw [hw, Bool.true_and] at hat
      refine ⟨fun _ => by simp only [pre104]; omega, ends_bool rfl ?_⟩
      rw [hat, Bool.eq_iff_iff]
      (simp only [vcS])
      simp only [Int.natCast_pos]
  · rw [hat, if_neg h0, if_neg (by omega), if_neg h3]
    rcases hq with hq | hq
    · have : ¬(o.l.length = 0 ∧ o.e.kind ≠ 0 ∧ 7 < list) := by omega
      rw [decide_eq_false this]; rfl
    · rw [hq]; simp
  · rw [hat, if_neg h0, if_neg (by omega), if_neg h3, hq.2]
    have : o.l.length = 0 ∧ o.e.kind ≠ 0 ∧ 7 < list := by omega
    rw [decide_eq_true this, Bool.eq_iff_iff]
    (simp only [vcS])
    simp only [true_and, Bool.and_true, decide_eq_true_eq, and_assoc, or_assoc]
theorem c23_90 : Contract Try.prog cfg 23 spec23 ∧ Contract Try.prog cfg 64 spec64 := make23_64 c62 c63 c104 c37 c65 b23 b64
theorem lightE_at (e : Edit) : lightE e = (decide (lenA e.ops 0 ≤ 2000 ∧ lenB e.ops 0 ≤ 2000) && lightKs e.kids && lightOs e.ops) := by
  obtain ⟨k, o, nw, w, ks, l, os⟩ := e; rfl
theorem lightKid_at (k : Kid) : lightKid k = lightE k.e := by cases k; rfl
theorem lightOp_at (o : Op) : lightOp o = lightE o.e := by cases o; rfl
theorem rightE_in {e : Edit} {d : Int} (h : rightE e d = true) : (∀ k ∈ e.kids, rightE k.e (d - 1) = true ∧ k.e.kind ≠ 0) ∧ ∀ o ∈ e.ops, rightOp e.list o (d - 1) = true := by
  rw [rightE_at] at h
  split at h
  · cases h
  · split at h
    · cases h
    · rename_i h1 h2
      split at h
      · rename_i h3
        have hk : e.kids = [] := List.eq_nil_of_length_eq_zero (by omega)
        have ho : e.ops = [] := List.eq_nil_of_length_eq_zero (by omega)
        rw [hk, ho]
        exact ⟨fun k hk => (by cases hk), fun o ho => (by cases ho)⟩
      · simp only [Bool.and_eq_true] at h
        exact ⟨fun k hk => rightKs_mem h.1.1.1.2 hk, fun o ho => rightOs_mem h.1.2 ho⟩
theorem sameE_eq {e : Edit} (h : sameE e = true) : e.kind = 0 ∧ noneT e.old = true ∧ noneT e.new = true ∧ e.words = [] ∧ e.kids = [] ∧ e.ops = [] ∧ e.list = 0 := by
  simp only [sameE, Bool.and_eq_true, decide_eq_true_eq] at h
  obtain ⟨⟨⟨h1, h2⟩, h3⟩, h4, h5, h6, h7⟩ := h
  exact ⟨h1, h2, h3, List.eq_nil_of_length_eq_zero h4, List.eq_nil_of_length_eq_zero h5, List.eq_nil_of_length_eq_zero h6, h7⟩
theorem sameE_right {e : Edit} (h : sameE e = true) (d : Int) (hd : d ≠ 0) : rightE e d = true := by
  obtain ⟨h1, h2, h3, h4, h5, h6, h7⟩ := sameE_eq h
  rw [rightE_at, h1, h2, h3, h4, h5, h6, h7, if_neg (by omega), if_neg (by simp), if_neg (by omega)]
  simp [wordsOk, rightKs, rightOs, lenA, lenB]
theorem rightOp_right {list : Int} {o : Op} {d : Int} (h : rightOp list o d = true) : ∃ d', rightE o.e d' = true := by
  rw [rightOp_at] at h
  split at h
  · simp only [Bool.and_eq_true] at h
    exact ⟨1, sameE_right h.2 1 (by omega)⟩
  · split at h
    · cases h
    · split at h
      · simp only [Bool.and_eq_true] at h
        exact ⟨1, sameE_right h.2 1 (by omega)⟩
      · simp only [Bool.and_eq_true] at h
        exact ⟨d, h.1.2⟩
theorem c55 : Contract Try.prog cfg 55 spec55 := by
  refine make55 c65 ?_
  intro N e _ hp hN
  simp only [pre55, mu55] at hp hN
  obtain ⟨⟨hm, hr⟩, dd, hrt⟩ := hp
  obtain ⟨ik, ro, rn, rw', il, rk, ros⟩ := rngE_at hr
  have hme := len_massE e
  have hkl := massKs_len e.kids
  have hol := massOs_len e.ops
  have hat := lightE_at e
  obtain ⟨hrk, hro⟩ := rightE_in hrt
  refine vc55 N e _ ?_; (try simp only [vcT, forall_eq])
  (simp only [vcS]); (try simp only [vcT]); (try simp only [vcU])
  try (simp only [Tree.eta, Edit.eta, Tree.kind_mk, Tree.words_mk, Tree.kids_mk])
  refine ⟨⟨hm, fun o ho => rightOp_n (hro o ho)⟩, fun hq => ends_bool rfl (by rw [hat, decide_eq_false (by omega)]; rfl), fun hq => ?_⟩
  rw [decide_eq_true (by omega), Bool.true_and] at hat
  refine loop_rule (ι := Int) (fun p => head55_0 e p) (fun p => 0 ≤ p ∧ p ≤ e.kids.length ∧ lightKs (e.kids.drop p.toNat) = lightKs e.kids) (fun p => ((e.kids.length : Int) - p).toNat) 0 rfl ⟨by omega, by omega, by simp⟩ ?_
  rintro i ⟨h4, h5, h6⟩
  refine vc55_l0 N e i _ _ ?_; (try simp only [vcT, forall_eq])
  (simp only [vcS]); (try simp only [vcT]); (try simp only [vcU])
  try (simp only [Tree.eta, Edit.eta, Tree.kind_mk, Tree.words_mk, Tree.kids_mk])
  refine ⟨fun hi => ?_, fun hi => ?_⟩
  · have hmem := mem_getD (l := e.kids) (i := i.toNat) (by omega) (KidOf.mk 0 Edit.nil)
    have hrr := rngKs_mem rk hmem
    have hmm := massKs_mem hmem
    have hri := hrk _ hmem
    rw [dropI h4 hi (KidOf.mk 0 Edit.nil)] at h6
    simp only [lightKs, lightKid_at] at h6
    generalize e.kids.getD i.toNat (KidOf.mk 0 Edit.nil) = k at *
    refine ⟨⟨h4, hi⟩, ⟨⟨by dsimp only; omega, hrr.2⟩, _, hri.1⟩, by simp only [mu55]; omega, fun hq => ends_bool rfl (by rw [hat, ← h6, hq]; rfl), fun hq => ⟨by unfold InR; omega, i + 1, rfl, ⟨by omega, by omega, by rw [← h6, hq]; rfl⟩, by omega⟩⟩
  · have hw : lightKs e.kids = true := by
      rw [← h6, List.drop_of_length_le (by omega)]; rfl
    rw [hw, Bool.true_and] at hat
    refine loop_rule (ι := Int) (fun p => head55_1 e p) (fun p => 0 ≤ p ∧ p ≤ e.ops.length ∧ lightOs (e.ops.drop p.toNat) = lightOs e.ops) (fun p => ((e.ops.length : Int) - p).toNat) 0 rfl ⟨by omega, by omega, by simp⟩ ?_
    rintro j ⟨g4, g5, g6⟩
    refine vc55_l1 N e j _ _ ?_; (try simp only [vcT, forall_eq])
    (simp only [vcS]); (try simp only [vcT]); (try simp only [vcU])
    try (simp only [Tree.eta, Edit.eta, Tree.kind_mk, Tree.words_mk, Tree.kids_mk])
    refine ⟨fun hi => ?_, fun hi => ?_⟩
    · have hmem := mem_getD (l := e.ops) (i := j.toNat) (by omega) Op.nil
      have hrr := rngOp_e (rngOs_mem ros hmem)
      have hmm := massOs_mem hmem
      have hri := rightOp_right (hro _ hmem)
      rw [massOp_e] at hmm
      rw [dropI g4 hi Op.nil] at g6
      simp only [lightOs, lightOp_at] at g6
      generalize e.ops.getD j.toNat Op.nil = o at *
      refine ⟨⟨g4, hi⟩, ⟨⟨by dsimp only; omega, hrr.2.2.2⟩, hri⟩, by simp only [mu55]; omega, fun hq => ends_bool rfl (by rw [hat, ← g6, hq]; rfl), fun hq => ⟨by unfold InR; omega, j + 1, rfl, ⟨by omega, by omega, by rw [← g6, hq]; rfl⟩, by omega⟩⟩
    · refine ends_bool rfl ?_
      rw [hat, ← g6, List.drop_of_length_le (by omega)]; rfl
theorem c15 : Contract Try.prog cfg 15 spec15 := by
  refine make15 c54 c23_90.1 c55 ?_
  intro e _ hp
  simp only [pre15] at hp
  refine vc15 e _ ?_; (try simp only [vcT, forall_eq])
  try (simp only [Tree.eta, Edit.eta, Tree.kind_mk, Tree.words_mk, Tree.kids_mk])
  refine ⟨hp.1, fun hf => ?_, fun hf => ?_, ends_bool rfl ?_⟩
  · have := few_massE (by simpa using hf)
    exact ⟨⟨by dsimp only; omega, hp.2⟩, by dsimp only; omega, by dsimp only; omega⟩
  · simp only [bif_fr, decide_eq_true_eq] at hf
    have := few_massE hf.1
    exact ⟨⟨by dsimp only; omega, hp.2⟩, 64, hf.2⟩
  · show _ = good e
    simp only [good]
    rw [Bool.eq_iff_iff]
    (simp only [vcS])
end Go.AM.Ytpjenobkibfpcaa

namespace Go.AM
noncomputable def eqX {α : Type} (a b : α) : Bool := @decide (a = b) (Classical.propDecidable _)
theorem eqX_iff {α : Type} {a b : α} : eqX a b = true ↔ a = b := by unfold eqX; exact @decide_eq_true_iff _ (Classical.propDecidable _)
@[simp] theorem eqX_self {α : Type} (a : α) : eqX a a = true := eqX_iff.2 rfl
def opOk (o : Op) : Prop :=
  (o.kind = 0 ∧ o.l = [] ∧ (1 ≤ o.n ∧ o.n ≤ 1048576) ∧ o.e = Edit.nil) ∨ ((o.kind = 1 ∨ o.kind = 2) ∧ o.n = 0 ∧ o.l ≠ [] ∧ o.e = Edit.nil) ∨ (o.kind = 3 ∧ o.n = 0 ∧ o.l = [])
def okOs (l : List Op) : Prop := (∀ o ∈ l, opOk o) ∧ massOs l ≤ 20000000000
def kidsOs : List Op → Int
  | [] => 0
  | o :: r => opLen o + kidsOs r
end Go.AM
