import Derived.Test.YthokdjgpdonhgaaBD07
import Derived.Test.YthokdjgpdonhgaaQBb
import Derived.Test.YthokdjgpdonhgaaQD4
set_option linter.unusedSimpArgs false
set_option linter.unusedVariables false
namespace Go.AM.Ythokdjgpdonhgaa
open Go.AM Go.Proofs
def args70 : ArgL (Tree × Int × Int × Unit) := (.cons (aEl .tree) (.cons (aInt .i64) (.cons (aInt .i64) .nil)))
def pre70 (a : Tree × Int × Int × Unit) : Prop := small a.1 ∧ 0 ≤ a.2.1 ∧ a.2.1 ≤ 4611686018427387904 ∧ -1 ≤ a.2.2.1 ∧ a.2.2.1 ≤ 4611686018427387904
def mu70 (a : Tree × Int × Int × Unit) : Nat := mass a.1
noncomputable def res70 (a : Tree × Int × Int × Unit) : V U := .c (.int .i64 (shallow a.1 a.2.1 a.2.2.1))
noncomputable def spec70 : Fs U := fs args70 (fun a => [pre70 a]) res70
def args33 : ArgL (Tree × Unit) := (.cons (aEl .tree) .nil)
def pre33 (a : Tree × Unit) : Prop := small a.1
noncomputable def res33 (a : Tree × Unit) : V U := .c (.bool (decide (0 ≤ shallow a.1 80 3000)))
noncomputable def spec33 : Fs U := fs args33 (fun a => [pre33 a]) res33
def args80 : ArgL (List Int × Unit) := (.cons (aSl .u64) .nil)
def pre80 (a : List Int × Unit) : Prop := a.1.length ≤ 1000000000000
noncomputable def res80 (a : List Int × Unit) : V U := .c (.slice (U := U) .u64 (trim a.1) .unk)
noncomputable def spec80 : Fs U := fs args80 (fun a => [pre80 a]) res80
def args81 : ArgL (List Int × List Int × Unit) := (.cons (aSl .u64) (.cons (aSl .u64) .nil))
def pre81 (a : List Int × List Int × Unit) : Prop := a.1.length ≤ 17592186044416
noncomputable def res81 (a : List Int × List Int × Unit) : V U := .c (.bool (decide (a.1 = a.2.1)))
noncomputable def spec81 : Fs U := fs args81 (fun a => [pre81 a]) res81
def args100 : ArgL (Tree × Int × Unit) := (.cons (aEl .tree) (.cons (aInt .i64) .nil))
def pre100 (a : Tree × Int × Unit) : Prop := True
noncomputable def res100 (a : Tree × Int × Unit) : V U := .c (.int .u64 (wordAt a.1 a.2.1))
noncomputable def spec100 : Fs U := fs args100 (fun a => [pre100 a]) res100
def args50 : ArgL (Tree × Unit) := (.cons (aEl .tree) .nil)
def pre50 (a : Tree × Unit) : Prop := mass a.1 ≤ 1000000000000
def mu50 (a : Tree × Unit) : Nat := mass a.1
noncomputable def res50 (a : Tree × Unit) : V U := .agg [.int .i64 (Tree.kind (normT a.1)), .slice (U := U) .u64 (Tree.words (normT a.1)) .unk, .slice (U := U) .tree (Tree.kids (normT a.1)) .unk]
noncomputable def spec50 : Fs U := fs args50 (fun a => [pre50 a]) res50
def args72 : ArgL (Tree × Unit) := (.cons (aEl .tree) .nil)
def pre72 (a : Tree × Unit) : Prop := mass a.1 ≤ 1000000000000
def mu72 (a : Tree × Unit) : Nat := mass a.1
noncomputable def res72 (a : Tree × Unit) : V U := .agg [.int .i64 (Tree.kind (normT a.1)), .slice (U := U) .u64 (Tree.words (normT a.1)) .unk, .slice (U := U) .tree (Tree.kids (normT a.1)) .unk]
noncomputable def spec72 : Fs U := fs args72 (fun a => [pre72 a]) res72
def args49 : ArgL (Tree × Tree × Unit) := (.cons (aEl .tree) (.cons (aEl .tree) .nil))
def pre49 (a : Tree × Tree × Unit) : Prop := mass a.1 ≤ 1000000000000
def mu49 (a : Tree × Tree × Unit) : Nat := mass a.1
noncomputable def res49 (a : Tree × Tree × Unit) : V U := .c (.bool (sameT a.1 a.2.1))
noncomputable def spec49 : Fs U := fs args49 (fun a => [pre49 a]) res49
noncomputable def know70 (N : Nat) : List (FuncId × Fs U) := (70, fs args70 (fun a => [pre70 a, mu70 a < N]) res70) :: []
def lv70 : Lives U := fun i => match i with
  | 0 => ([(1, []), (2, []), (3, [])], [((.loc 3), [])])
  | 1 => ([(1, []), (2, []), (3, [])], [((.loc 3), [])])
  | 2 => ([(1, []), (2, []), (3, []), (19, [])], [((.loc 3), [])])
  | 3 => ([(6, [])], [])
  | 4 => ([(1, []), (2, []), (3, []), (7, [])], [((.loc 3), [])])
  | 5 => ([(1, []), (2, []), (3, []), (7, []), (28, [])], [((.loc 3), [])])
  | 6 => ([(1, []), (2, []), (3, []), (7, [])], [((.loc 3), [])])
  | 7 => ([(1, []), (2, []), (3, []), (7, [])], [((.loc 3), [])])
  | 8 => ([(6, [])], [])
  | _ => ([], [])
def head70_0 (t : Tree) (d : Int) (l : Int) (x2 : Int) (x7 : Int) : LSt U := (⟨[(1, .c (.int .i64 d)), (2, .c (.int .i64 x2)), (3, .ptr (.loc 3) 0), (7, .c (.int .i64 x7))], [((.loc 3), [.int .i64 (Tree.kind t), .slice (U := U) .u64 (Tree.words t) .unk, .slice (U := U) .tree (Tree.kids t) .unk])], []⟩ : LSt U)
theorem vc70 (N : Nat) (t : Tree) (d : Int) (l : Int) (Q : AExit → LSt U → Prop) (h : ((InR ((l : Int) - 1)) ∧ (InR ((((l : Int) - 1) : Int) - ((Tree.words t).length : Int))) ∧ (((!((d : Int) == 0)) = true → (!((d : Int) == 0)) = true) ∧ ((((d : Int) == 0) = false → (!((d : Int) == 0)) = true)) ∧ (((bif ((d : Int) == 0) then true else (decide ((((((l : Int) - 1) : Int) - ((Tree.words t).length : Int)) : Int) < 0))) = true → (Q .ret (⟨[(6, .c (.int .i64 (-1)))], [], []⟩ : LSt U))) ∧ ((bif ((d : Int) == 0) then true else (decide ((((((l : Int) - 1) : Int) - ((Tree.words t).length : Int)) : Int) < 0))) = false → (LoopWp (awp cfg (know (know70 N)) (drawOk cfg (know (know70 N))) Try.f70.ntmps lv70 (cd Try.f70 [1, 1, 1, 0, 1, 0, 0])) (head70_0 t d l ((((l : Int) - 1) : Int) - ((Tree.words t).length : Int)) 0) (AExit.inBlock 0 (seqK cfg (know (know70 N)) (drawOk cfg (know (know70 N))) Try.f70.ntmps lv70 (cd Try.f70 [1, 1, 1, 1]) Q)))))))) :
    awp cfg (know (know70 N)) (drawOk cfg (know (know70 N))) Try.f70.ntmps lv70 (cd Try.f70 []) (⟨[(0, .agg [.int .i64 (Tree.kind t), .slice (U := U) .u64 (Tree.words t) .unk, .slice (U := U) .tree (Tree.kids t) .unk]), (1, .c (.int .i64 d)), (2, .c (.int .i64 l))], [], []⟩ : LSt U) Q := by
  have e : (awp cfg (know (know70 N)) (drawOk cfg (know (know70 N))) Try.f70.ntmps lv70 (cd Try.f70 []) (⟨[(0, .agg [.int .i64 (Tree.kind t), .slice (U := U) .u64 (Tree.words t) .unk, .slice (U := U) .tree (Tree.kids t) .unk]), (1, .c (.int .i64 d)), (2, .c (.int .i64 l))], [], []⟩ : LSt U) Q) = (type_of% h) := by kernel_rfl
  exact e.mpr h
theorem vc70_l0 (N : Nat) (t : Tree) (d : Int) (l : Int) (x2 : Int) (x7 : Int) (N0 : LSt U → Prop) (Q : AExit → LSt U → Prop) (h : ((decide ((x7 : Int) < ((Tree.kids t).length : Int))) = true → (decide ((x7 : Int) < ((Tree.kids t).length : Int))) = true) ∧ (((decide ((x7 : Int) < ((Tree.kids t).length : Int))) = true → (decide ((x7 : Int) < ((Tree.kids t).length : Int))) = true)) ∧ (((bif (decide ((x7 : Int) < ((Tree.kids t).length : Int))) then (decide ((0 : Int) ≤ x2)) else false) = true → (0 ≤ x7 ∧ x7 < ((Tree.kids t).length : Int)) ∧ (InR ((d : Int) - 1)) ∧ (pre70 ((Tree.mk (Tree.kind (List.getD (Tree.kids t) (Int.toNat x7) Tree.nil)) (Tree.words (List.getD (Tree.kids t) (Int.toNat x7) Tree.nil)) (Tree.kids (List.getD (Tree.kids t) (Int.toNat x7) Tree.nil))), ((d : Int) - 1), x2, ())) ∧ (mu70 ((Tree.mk (Tree.kind (List.getD (Tree.kids t) (Int.toNat x7) Tree.nil)) (Tree.words (List.getD (Tree.kids t) (Int.toNat x7) Tree.nil)) (Tree.kids (List.getD (Tree.kids t) (Int.toNat x7) Tree.nil))), ((d : Int) - 1), x2, ()) < N) ∧ ((InR ((x7 : Int) + 1)) ∧ (N0 (head70_0 t d l (shallow (Tree.mk (Tree.kind (List.getD (Tree.kids t) (Int.toNat x7) Tree.nil)) (Tree.words (List.getD (Tree.kids t) (Int.toNat x7) Tree.nil)) (Tree.kids (List.getD (Tree.kids t) (Int.toNat x7) Tree.nil))) ((d : Int) - 1) x2) ((x7 : Int) + 1))))) ∧ ((bif (decide ((x7 : Int) < ((Tree.kids t).length : Int))) then (decide ((0 : Int) ≤ x2)) else false) = false → (Q .ret (⟨[(6, .c (.int .i64 x2))], [], []⟩ : LSt U))))) :
    awp cfg (know (know70 N)) (drawOk cfg (know (know70 N))) Try.f70.ntmps lv70 (cd Try.f70 [1, 1, 1, 0, 1, 0, 0]) (head70_0 t d l x2 x7) (AExit.then N0 (AExit.inBlock 0 (seqK cfg (know (know70 N)) (drawOk cfg (know (know70 N))) Try.f70.ntmps lv70 (cd Try.f70 [1, 1, 1, 1]) Q))) := by
  have e : (awp cfg (know (know70 N)) (drawOk cfg (know (know70 N))) Try.f70.ntmps lv70 (cd Try.f70 [1, 1, 1, 0, 1, 0, 0]) (head70_0 t d l x2 x7) (AExit.then N0 (AExit.inBlock 0 (seqK cfg (know (know70 N)) (drawOk cfg (know (know70 N))) Try.f70.ntmps lv70 (cd Try.f70 [1, 1, 1, 1]) Q)))) = (type_of% h) := by kernel_rfl
  exact e.mpr h
def Body70 (N : Nat) (t : Tree) (d : Int) (l : Int)  : Prop := awp cfg (know (know70 N)) (drawOk cfg (know (know70 N))) Try.f70.ntmps lv70 (cd Try.f70 []) (entry (args70.can (t, d, l, ())) []) (EndsQ cfg Try.f70.ntmps Try.f70.results.toList (res70 (t, d, l, ())) [])
theorem make70 (hb : ∀ (N : Nat) (t : Tree) (d : Int) (l : Int) (_ : Unit), pre70 (t, d, l, ()) → mu70 (t, d, l, ()) < N + 1 → Body70 N t d l) : Contract Try.prog cfg 70 spec70 :=
  contract_rec (μ := mu70) (l := []) cfgOk rfl (trivial) lv70 Try.func70 rfl rfl 3 (fun _ => rfl) (by decide) (fun N ⟨t, d, l, _⟩ => hb N t d l ())
noncomputable def know33 : List (FuncId × Fs U) := [(70, spec70)]
def lv33 : Lives U := fun i => match i with
  | 0 => ([(1, [])], [((.loc 1), [])])
  | 1 => ([(2, [])], [])
  | _ => ([], [])
theorem vc33 (t : Tree) (Q : AExit → LSt U → Prop) (h : ((pre70 ((Tree.mk (Tree.kind t) (Tree.words t) (Tree.kids t)), 80, 3000, ())) ∧ (Q .ret (⟨[(2, .c (.bool (decide ((0 : Int) ≤ (shallow (Tree.mk (Tree.kind t) (Tree.words t) (Tree.kids t)) 80 3000)))))], [], []⟩ : LSt U)))) :
    awp cfg (know know33) (drawOk cfg (know know33)) Try.f33.ntmps lv33 (cd Try.f33 []) (⟨[(0, .agg [.int .i64 (Tree.kind t), .slice (U := U) .u64 (Tree.words t) .unk, .slice (U := U) .tree (Tree.kids t) .unk])], [], []⟩ : LSt U) Q := by
  have e : (awp cfg (know know33) (drawOk cfg (know know33)) Try.f33.ntmps lv33 (cd Try.f33 []) (⟨[(0, .agg [.int .i64 (Tree.kind t), .slice (U := U) .u64 (Tree.words t) .unk, .slice (U := U) .tree (Tree.kids t) .unk])], [], []⟩ : LSt U) Q) = (type_of% h) := by kernel_rfl
  exact e.mpr h
def Body33 (t : Tree)  : Prop := awp cfg (know (know33)) (drawOk cfg (know (know33))) Try.f33.ntmps lv33 (cd Try.f33 []) (entry (args33.can (t, ())) []) (EndsQ cfg Try.f33.ntmps Try.f33.results.toList (res33 (t, ())) [])
theorem make33 (c70 : Contract Try.prog cfg 70 spec70) (hb : ∀ (t : Tree) (_ : Unit), pre33 (t, ()) → Body33 t) : Contract Try.prog cfg 33 spec33 :=
  contract_flat (l := [(70, spec70)]) cfgOk rfl (⟨c70, trivial⟩) lv33 Try.func33 rfl rfl 1 (fun _ => rfl) (by decide) (fun ⟨t, _⟩ => hb t ())
noncomputable def know80 : List (FuncId × Fs U) := []
def lv80 : Lives U := fun i => match i with
  | 0 => ([(0, [])], [])
  | 1 => ([(0, []), (3, [])], [])
  | 2 => ([(0, []), (3, []), (16, [])], [])
  | 3 => ([(0, []), (3, [])], [])
  | 4 => ([(0, []), (3, []), (4, [])], [])
  | 5 => ([(2, [])], [])
  | _ => ([], [])
def head80_0 (l : List Int) (x3 : Int) : LSt U := (⟨[(0, .c (.slice (U := U) .u64 l .unk)), (3, .c (.int .i64 x3))], [], []⟩ : LSt U)
theorem vc80 (l : List Int) (Q : AExit → LSt U → Prop) (h : ((LoopWp (awp cfg (know know80) (drawOk cfg (know know80)) Try.f80.ntmps lv80 (cd Try.f80 [1, 1, 0, 0, 0])) (head80_0 l (l.length : Int)) (AExit.inBlock 0 (seqK cfg (know know80) (drawOk cfg (know know80)) Try.f80.ntmps lv80 (cd Try.f80 [1, 1, 1]) Q))))) :
    awp cfg (know know80) (drawOk cfg (know know80)) Try.f80.ntmps lv80 (cd Try.f80 []) (⟨[(0, .c (.slice (U := U) .u64 l .unk))], [], []⟩ : LSt U) Q := by
  have e : (awp cfg (know know80) (drawOk cfg (know know80)) Try.f80.ntmps lv80 (cd Try.f80 []) (⟨[(0, .c (.slice (U := U) .u64 l .unk))], [], []⟩ : LSt U) Q) = (type_of% h) := by kernel_rfl
  exact e.mpr h
theorem vc80_l0 (l : List Int) (x3 : Int) (N0 : LSt U → Prop) (Q : AExit → LSt U → Prop) (h : ((decide ((0 : Int) < x3)) = true → (decide ((0 : Int) < x3)) = true) ∧ ((decide ((0 : Int) < x3)) = true → InR ((x3 : Int) - 1)) ∧ ((decide ((0 : Int) < x3)) = true → (decide ((0 : Int) < x3)) = true) ∧ ((decide ((0 : Int) < x3)) = true → (decide ((0 : Int) < x3)) = true) ∧ ((decide ((0 : Int) < x3)) = true → 0 ≤ ((x3 : Int) - 1) ∧ ((x3 : Int) - 1) < (l.length : Int)) ∧ ((decide ((0 : Int) < x3)) = true → (decide ((0 : Int) < x3)) = true) ∧ ((decide ((0 : Int) < x3)) = true → (decide ((0 : Int) < x3)) = true) ∧ (((decide ((0 : Int) < x3)) = true → (decide ((0 : Int) < x3)) = true)) ∧ (((bif (decide ((0 : Int) < x3)) then (((List.getD l (Int.toNat ((x3 : Int) - 1)) (0 : Int)) : Int) == 0) else false) = true → (InR ((x3 : Int) - 1)) ∧ (N0 (head80_0 l ((x3 : Int) - 1)))) ∧ ((bif (decide ((0 : Int) < x3)) then (((List.getD l (Int.toNat ((x3 : Int) - 1)) (0 : Int)) : Int) == 0) else false) = false → ((0 ≤ x3 ∧ x3 ≤ (l.length : Int)) ∧ ((([] : List Int).length + (List.take (Int.toNat x3) l).length) * 8 ≤ 140737488355328) ∧ (Q .ret (⟨[(2, .c (.slice (U := U) .u64 (([] : List Int) ++ (List.take (Int.toNat x3) l)) (.own (.e 2 0))))], [], []⟩ : LSt U)))))) :
    awp cfg (know know80) (drawOk cfg (know know80)) Try.f80.ntmps lv80 (cd Try.f80 [1, 1, 0, 0, 0]) (head80_0 l x3) (AExit.then N0 (AExit.inBlock 0 (seqK cfg (know know80) (drawOk cfg (know know80)) Try.f80.ntmps lv80 (cd Try.f80 [1, 1, 1]) Q))) := by
  have e : (awp cfg (know know80) (drawOk cfg (know know80)) Try.f80.ntmps lv80 (cd Try.f80 [1, 1, 0, 0, 0]) (head80_0 l x3) (AExit.then N0 (AExit.inBlock 0 (seqK cfg (know know80) (drawOk cfg (know know80)) Try.f80.ntmps lv80 (cd Try.f80 [1, 1, 1]) Q)))) = (type_of% h) := by kernel_rfl
  exact e.mpr h
def Body80 (l : List Int)  : Prop := awp cfg (know (know80)) (drawOk cfg (know (know80))) Try.f80.ntmps lv80 (cd Try.f80 []) (entry (args80.can (l, ())) []) (EndsQ cfg Try.f80.ntmps Try.f80.results.toList (res80 (l, ())) [])
theorem make80 (hb : ∀ (l : List Int) (_ : Unit), pre80 (l, ()) → Body80 l) : Contract Try.prog cfg 80 spec80 :=
  contract_flat (l := []) cfgOk rfl (trivial) lv80 Try.func80 rfl rfl 1 (fun _ => rfl) (by decide) (fun ⟨l, _⟩ => hb l ())
noncomputable def know81 : List (FuncId × Fs U) := []
def lv81 : Lives U := fun i => match i with
  | 0 => ([(0, []), (1, [])], [])
  | 1 => ([(0, []), (1, []), (10, [])], [])
  | 2 => ([(4, [])], [])
  | 3 => ([(0, []), (1, []), (12, []), (13, [])], [])
  | 4 => ([(0, []), (1, []), (12, []), (13, []), (14, [])], [])
  | 5 => ([(0, []), (1, []), (5, []), (12, []), (13, [])], [])
  | 6 => ([(0, []), (1, []), (12, []), (13, []), (24, [])], [])
  | 7 => ([(4, [])], [])
  | 8 => ([(0, []), (1, []), (12, []), (13, [])], [])
  | 9 => ([(4, [])], [])
  | _ => ([], [])
def head81_0 (a : List Int) (b : List Int) (x13 : Int) : LSt U := (⟨[(0, .c (.slice (U := U) .u64 a .unk)), (1, .c (.slice (U := U) .u64 b .unk)), (12, .c (.int .i64 (a.length : Int))), (13, .c (.int .i64 x13))], [], []⟩ : LSt U)
theorem vc81 (a : List Int) (b : List Int) (Q : AExit → LSt U → Prop) (h : ((((((a.length : Int) : Int) != (b.length : Int)) = true → (Q .ret (⟨[(4, .c (.bool false))], [], []⟩ : LSt U))) ∧ ((((a.length : Int) : Int) != (b.length : Int)) = false → (LoopWp (awp cfg (know know81) (drawOk cfg (know know81)) Try.f81.ntmps lv81 (cd Try.f81 [1, 1, 0, 1, 0, 0])) (head81_0 a b 0) (AExit.inBlock 0 (seqK cfg (know know81) (drawOk cfg (know know81)) Try.f81.ntmps lv81 (cd Try.f81 [1, 1, 1]) Q))))))) :
    awp cfg (know know81) (drawOk cfg (know know81)) Try.f81.ntmps lv81 (cd Try.f81 []) (⟨[(0, .c (.slice (U := U) .u64 a .unk)), (1, .c (.slice (U := U) .u64 b .unk))], [], []⟩ : LSt U) Q := by
  have e : (awp cfg (know know81) (drawOk cfg (know know81)) Try.f81.ntmps lv81 (cd Try.f81 []) (⟨[(0, .c (.slice (U := U) .u64 a .unk)), (1, .c (.slice (U := U) .u64 b .unk))], [], []⟩ : LSt U) Q) = (type_of% h) := by kernel_rfl
  exact e.mpr h
theorem vc81_l0 (a : List Int) (b : List Int) (x13 : Int) (N0 : LSt U → Prop) (Q : AExit → LSt U → Prop) (h : (((decide ((x13 : Int) < (a.length : Int))) = true → ((0 ≤ x13 ∧ x13 < (a.length : Int)) ∧ (0 ≤ x13 ∧ x13 < (b.length : Int)) ∧ (((((List.getD a (Int.toNat x13) (0 : Int)) : Int) != (List.getD b (Int.toNat x13) (0 : Int))) = true → (Q .ret (⟨[(4, .c (.bool false))], [], []⟩ : LSt U))) ∧ ((((List.getD a (Int.toNat x13) (0 : Int)) : Int) != (List.getD b (Int.toNat x13) (0 : Int))) = false → (InR ((x13 : Int) + 1)) ∧ (N0 (head81_0 a b ((x13 : Int) + 1))))))) ∧ ((decide ((x13 : Int) < (a.length : Int))) = false → (Q .ret (⟨[(4, .c (.bool true))], [], []⟩ : LSt U))))) :
    awp cfg (know know81) (drawOk cfg (know know81)) Try.f81.ntmps lv81 (cd Try.f81 [1, 1, 0, 1, 0, 0]) (head81_0 a b x13) (AExit.then N0 (AExit.inBlock 0 (seqK cfg (know know81) (drawOk cfg (know know81)) Try.f81.ntmps lv81 (cd Try.f81 [1, 1, 1]) Q))) := by
  have e : (awp cfg (know know81) (drawOk cfg (know know81)) Try.f81.ntmps lv81 (cd Try.f81 [1, 1, 0, 1, 0, 0]) (head81_0 a b x13) (AExit.then N0 (AExit.inBlock 0 (seqK cfg (know know81) (drawOk cfg (know know81)) Try.f81.ntmps lv81 (cd Try.f81 [1, 1, 1]) Q)))) = (type_of% h) := by kernel_rfl
  exact e.mpr h
def Body81 (a : List Int) (b : List Int)  : Prop := awp cfg (know (know81)) (drawOk cfg (know (know81))) Try.f81.ntmps lv81 (cd Try.f81 []) (entry (args81.can (a, b, ())) []) (EndsQ cfg Try.f81.ntmps Try.f81.results.toList (res81 (a, b, ())) [])
theorem make81 (hb : ∀ (a : List Int) (b : List Int) (_ : Unit), pre81 (a, b, ()) → Body81 a b) : Contract Try.prog cfg 81 spec81 :=
  contract_flat (l := []) cfgOk rfl (trivial) lv81 Try.func81 rfl rfl 2 (fun _ => rfl) (by decide) (fun ⟨a, b, _⟩ => hb a b ())
noncomputable def know100 : List (FuncId × Fs U) := []
def lv100 : Lives U := fun i => match i with
  | 0 => ([(1, []), (2, [])], [((.loc 2), [])])
  | 1 => ([(1, []), (2, []), (13, [])], [((.loc 2), [])])
  | 2 => ([(4, [])], [])
  | 3 => ([(4, [])], [])
  | _ => ([], [])
theorem vc100 (t : Tree) (i : Int) (Q : AExit → LSt U → Prop) (h : (((!(decide ((i : Int) < 0))) = true → (!(decide ((i : Int) < 0))) = true) ∧ ((!(decide ((i : Int) < 0))) = true → (!(decide ((i : Int) < 0))) = true) ∧ ((!(decide ((i : Int) < 0))) = true → (!(decide ((i : Int) < 0))) = true) ∧ ((!(decide ((i : Int) < 0))) = true → (!(decide ((i : Int) < 0))) = true) ∧ (((decide ((i : Int) < 0)) = false → (!(decide ((i : Int) < 0))) = true)) ∧ (((bif (decide ((i : Int) < 0)) then true else (decide ((((Tree.words t).length : Int) : Int) ≤ i))) = true → (Q .ret (⟨[(4, .c (.int .u64 0))], [], []⟩ : LSt U))) ∧ ((bif (decide ((i : Int) < 0)) then true else (decide ((((Tree.words t).length : Int) : Int) ≤ i))) = false → (0 ≤ i ∧ i < ((Tree.words t).length : Int)) ∧ (Q .ret (⟨[(4, .c (.int .u64 (List.getD (Tree.words t) (Int.toNat i) (0 : Int))))], [], []⟩ : LSt U)))))) :
    awp cfg (know know100) (drawOk cfg (know know100)) Try.f100.ntmps lv100 (cd Try.f100 []) (⟨[(0, .agg [.int .i64 (Tree.kind t), .slice (U := U) .u64 (Tree.words t) .unk, .slice (U := U) .tree (Tree.kids t) .unk]), (1, .c (.int .i64 i))], [], []⟩ : LSt U) Q := by
  have e : (awp cfg (know know100) (drawOk cfg (know know100)) Try.f100.ntmps lv100 (cd Try.f100 []) (⟨[(0, .agg [.int .i64 (Tree.kind t), .slice (U := U) .u64 (Tree.words t) .unk, .slice (U := U) .tree (Tree.kids t) .unk]), (1, .c (.int .i64 i))], [], []⟩ : LSt U) Q) = (type_of% h) := by kernel_rfl
  exact e.mpr h
def Body100 (t : Tree) (i : Int)  : Prop := awp cfg (know (know100)) (drawOk cfg (know (know100))) Try.f100.ntmps lv100 (cd Try.f100 []) (entry (args100.can (t, i, ())) []) (EndsQ cfg Try.f100.ntmps Try.f100.results.toList (res100 (t, i, ())) [])
theorem make100 (hb : ∀ (t : Tree) (i : Int) (_ : Unit), pre100 (t, i, ()) → Body100 t i) : Contract Try.prog cfg 100 spec100 :=
  contract_flat (l := []) cfgOk rfl (trivial) lv100 Try.func100 rfl rfl 2 (fun _ => rfl) (by decide) (fun ⟨t, i, _⟩ => hb t i ())
noncomputable def know50 (N : Nat) : List (FuncId × Fs U) := (50, fs args50 (fun a => [pre50 a, mu50 a < N]) res50) :: [(80, spec80)]
def lv50 : Lives U := fun i => match i with
  | 0 => ([(1, []), (2, [])], [((.loc 1), []), ((.loc 2), [])])
  | 1 => ([(1, []), (2, []), (10, [])], [((.loc 1), []), ((.loc 2), [])])
  | 2 => ([(2, [])], [((.loc 2), [])])
  | 3 => ([(1, []), (2, []), (3, [])], [((.loc 1), []), ((.loc 2), [])])
  | 4 => ([(1, []), (2, []), (3, []), (4, [])], [((.loc 1), []), ((.loc 2), [])])
  | 5 => ([(1, []), (2, []), (3, [.own .tree]), (4, []), (5, [])], [((.loc 1), []), ((.loc 2), [])])
  | 6 => ([(1, []), (2, []), (3, []), (4, []), (5, []), (16, [])], [((.loc 1), []), ((.loc 2), [])])
  | 7 => ([(1, []), (2, []), (3, [.own .tree]), (4, []), (5, [])], [((.loc 1), []), ((.loc 2), [])])
  | 8 => ([(1, []), (2, []), (3, []), (4, []), (5, []), (6, [])], [((.loc 1), []), ((.loc 2), []), ((.loc 6), [])])
  | 9 => ([(1, []), (2, []), (3, []), (4, []), (5, []), (6, [])], [((.loc 1), []), ((.loc 2), []), ((.loc 6), [])])
  | 10 => ([(1, []), (2, []), (3, []), (4, []), (5, []), (31, [])], [((.loc 1), []), ((.loc 2), [])])
  | 11 => ([(1, []), (2, []), (3, []), (4, []), (5, [])], [((.loc 1), []), ((.loc 2), [])])
  | 12 => ([(1, []), (2, []), (3, []), (4, []), (36, [])], [((.loc 1), []), ((.loc 2), [])])
  | 13 => ([(2, [])], [((.loc 2), [])])
  | 14 => ([(1, []), (2, []), (3, []), (7, [])], [((.loc 1), []), ((.loc 2), [])])
  | 15 => ([(1, []), (2, []), (3, []), (7, [])], [((.loc 1), []), ((.loc 2), [])])
  | 16 => ([(2, [])], [((.loc 2), [])])
  | _ => ([], [])
def head50_0 (t : Tree) (x4 : Int) (x5 : Int) (x3 : List Tree) : LSt U := (⟨[(1, .ptr (.loc 1) 0), (2, .ptr (.loc 2) 0), (3, .c (.slice (U := U) .tree x3 (.own (.e 3 0)))), (4, .c (.int .i64 x4)), (5, .c (.int .i64 x5))], [((.loc 1), [.int .i64 (Tree.kind t), .slice (U := U) .u64 (Tree.words t) .unk, .slice (U := U) .tree (Tree.kids t) .unk]), ((.loc 2), [.int .i64 0, .nils, .nils])], []⟩ : LSt U)
theorem vc50 (N : Nat) (t : Tree) (Q : AExit → LSt U → Prop) (h : ((((((Tree.kind t) : Int) == 0) = true → (Q .ret (⟨[(2, .ptr (.loc 2) 0)], [((.loc 2), [.int .i64 0, .nils, .nils])], []⟩ : LSt U))) ∧ ((((Tree.kind t) : Int) == 0) = false → (((LoopWp (awp cfg (know (know50 N)) (drawOk cfg (know (know50 N))) Try.f50.ntmps lv50 (cd Try.f50 [1, 1, 1, 1, 0, 1, 0, 0])) (head50_0 t 0 0 ([])) (AExit.inBlock 0 (seqK cfg (know (know50 N)) (drawOk cfg (know (know50 N))) Try.f50.ntmps lv50 (cd Try.f50 [1, 1, 1, 1, 1]) Q))))))))) :
    awp cfg (know (know50 N)) (drawOk cfg (know (know50 N))) Try.f50.ntmps lv50 (cd Try.f50 []) (⟨[(0, .agg [.int .i64 (Tree.kind t), .slice (U := U) .u64 (Tree.words t) .unk, .slice (U := U) .tree (Tree.kids t) .unk])], [], []⟩ : LSt U) Q := by
  have e : (awp cfg (know (know50 N)) (drawOk cfg (know (know50 N))) Try.f50.ntmps lv50 (cd Try.f50 []) (⟨[(0, .agg [.int .i64 (Tree.kind t), .slice (U := U) .u64 (Tree.words t) .unk, .slice (U := U) .tree (Tree.kids t) .unk])], [], []⟩ : LSt U) Q) = (type_of% h) := by kernel_rfl
  exact e.mpr h
theorem vc50_l0 (N : Nat) (t : Tree) (x4 : Int) (x5 : Int) (x3 : List Tree) (N0 : LSt U → Prop) (Q : AExit → LSt U → Prop) (h : (((decide ((x5 : Int) < ((Tree.kids t).length : Int))) = true → (0 ≤ x5 ∧ x5 < ((Tree.kids t).length : Int)) ∧ (pre50 ((Tree.mk (Tree.kind (List.getD (Tree.kids t) (Int.toNat x5) Tree.nil)) (Tree.words (List.getD (Tree.kids t) (Int.toNat x5) Tree.nil)) (Tree.kids (List.getD (Tree.kids t) (Int.toNat x5) Tree.nil))), ())) ∧ (mu50 ((Tree.mk (Tree.kind (List.getD (Tree.kids t) (Int.toNat x5) Tree.nil)) (Tree.words (List.getD (Tree.kids t) (Int.toNat x5) Tree.nil)) (Tree.kids (List.getD (Tree.kids t) (Int.toNat x5) Tree.nil))), ()) < N) ∧ (((x3.length + ([(Tree.mk (Tree.kind (normT (Tree.mk (Tree.kind (List.getD (Tree.kids t) (Int.toNat x5) Tree.nil)) (Tree.words (List.getD (Tree.kids t) (Int.toNat x5) Tree.nil)) (Tree.kids (List.getD (Tree.kids t) (Int.toNat x5) Tree.nil))))) (Tree.words (normT (Tree.mk (Tree.kind (List.getD (Tree.kids t) (Int.toNat x5) Tree.nil)) (Tree.words (List.getD (Tree.kids t) (Int.toNat x5) Tree.nil)) (Tree.kids (List.getD (Tree.kids t) (Int.toNat x5) Tree.nil))))) (Tree.kids (normT (Tree.mk (Tree.kind (List.getD (Tree.kids t) (Int.toNat x5) Tree.nil)) (Tree.words (List.getD (Tree.kids t) (Int.toNat x5) Tree.nil)) (Tree.kids (List.getD (Tree.kids t) (Int.toNat x5) Tree.nil))))))]).length) * 56 ≤ 140737488355328) ∧ ((((((Tree.kind (normT (Tree.mk (Tree.kind (List.getD (Tree.kids t) (Int.toNat x5) Tree.nil)) (Tree.words (List.getD (Tree.kids t) (Int.toNat x5) Tree.nil)) (Tree.kids (List.getD (Tree.kids t) (Int.toNat x5) Tree.nil))))) : Int) != 0) = true → (InR ((x5 : Int) + 1)) ∧ ((InR ((x5 : Int) + 1)) ∧ (N0 (head50_0 t ((x5 : Int) + 1) ((x5 : Int) + 1) (x3 ++ ([(Tree.mk (Tree.kind (normT (Tree.mk (Tree.kind (List.getD (Tree.kids t) (Int.toNat x5) Tree.nil)) (Tree.words (List.getD (Tree.kids t) (Int.toNat x5) Tree.nil)) (Tree.kids (List.getD (Tree.kids t) (Int.toNat x5) Tree.nil))))) (Tree.words (normT (Tree.mk (Tree.kind (List.getD (Tree.kids t) (Int.toNat x5) Tree.nil)) (Tree.words (List.getD (Tree.kids t) (Int.toNat x5) Tree.nil)) (Tree.kids (List.getD (Tree.kids t) (Int.toNat x5) Tree.nil))))) (Tree.kids (normT (Tree.mk (Tree.kind (List.getD (Tree.kids t) (Int.toNat x5) Tree.nil)) (Tree.words (List.getD (Tree.kids t) (Int.toNat x5) Tree.nil)) (Tree.kids (List.getD (Tree.kids t) (Int.toNat x5) Tree.nil))))))])))))) ∧ ((((Tree.kind (normT (Tree.mk (Tree.kind (List.getD (Tree.kids t) (Int.toNat x5) Tree.nil)) (Tree.words (List.getD (Tree.kids t) (Int.toNat x5) Tree.nil)) (Tree.kids (List.getD (Tree.kids t) (Int.toNat x5) Tree.nil))))) : Int) != 0) = false → (InR ((x5 : Int) + 1)) ∧ (N0 (head50_0 t x4 ((x5 : Int) + 1) (x3 ++ ([(Tree.mk (Tree.kind (normT (Tree.mk (Tree.kind (List.getD (Tree.kids t) (Int.toNat x5) Tree.nil)) (Tree.words (List.getD (Tree.kids t) (Int.toNat x5) Tree.nil)) (Tree.kids (List.getD (Tree.kids t) (Int.toNat x5) Tree.nil))))) (Tree.words (normT (Tree.mk (Tree.kind (List.getD (Tree.kids t) (Int.toNat x5) Tree.nil)) (Tree.words (List.getD (Tree.kids t) (Int.toNat x5) Tree.nil)) (Tree.kids (List.getD (Tree.kids t) (Int.toNat x5) Tree.nil))))) (Tree.kids (normT (Tree.mk (Tree.kind (List.getD (Tree.kids t) (Int.toNat x5) Tree.nil)) (Tree.words (List.getD (Tree.kids t) (Int.toNat x5) Tree.nil)) (Tree.kids (List.getD (Tree.kids t) (Int.toNat x5) Tree.nil))))))]))))))))) ∧ ((decide ((x5 : Int) < ((Tree.kids t).length : Int))) = false → (((((Tree.kind t) : Int) == 1) = true → (pre80 ((Tree.words t), ())) ∧ (0 ≤ x4 ∧ x4 ≤ (x3.length : Int)) ∧ (Q .ret (⟨[(2, .ptr (.loc 2) 0)], [((.loc 2), [.int .i64 1, .slice (U := U) .u64 (trim (Tree.words t)) .unk, .slice (U := U) .tree (List.take (Int.toNat x4) x3) .unk])], []⟩ : LSt U))) ∧ ((((Tree.kind t) : Int) == 1) = false → (((([] : List Int).length + (Tree.words t).length) * 8 ≤ 140737488355328) ∧ ((Q .ret (⟨[(2, .ptr (.loc 2) 0)], [((.loc 2), [.int .i64 (Tree.kind t), .slice (U := U) .u64 (([] : List Int) ++ (Tree.words t)) (.own (.l 2 1)), .slice (U := U) .tree x3 (.own (.l 2 2))])], []⟩ : LSt U))))))))) :
    awp cfg (know (know50 N)) (drawOk cfg (know (know50 N))) Try.f50.ntmps lv50 (cd Try.f50 [1, 1, 1, 1, 0, 1, 0, 0]) (head50_0 t x4 x5 x3) (AExit.then N0 (AExit.inBlock 0 (seqK cfg (know (know50 N)) (drawOk cfg (know (know50 N))) Try.f50.ntmps lv50 (cd Try.f50 [1, 1, 1, 1, 1]) Q))) := by
  have e : (awp cfg (know (know50 N)) (drawOk cfg (know (know50 N))) Try.f50.ntmps lv50 (cd Try.f50 [1, 1, 1, 1, 0, 1, 0, 0]) (head50_0 t x4 x5 x3) (AExit.then N0 (AExit.inBlock 0 (seqK cfg (know (know50 N)) (drawOk cfg (know (know50 N))) Try.f50.ntmps lv50 (cd Try.f50 [1, 1, 1, 1, 1]) Q)))) = (type_of% h) := by kernel_rfl
  exact e.mpr h
def Body50 (N : Nat) (t : Tree)  : Prop := awp cfg (know (know50 N)) (drawOk cfg (know (know50 N))) Try.f50.ntmps lv50 (cd Try.f50 []) (entry (args50.can (t, ())) []) (EndsQ cfg Try.f50.ntmps Try.f50.results.toList (res50 (t, ())) [])
theorem make50 (c80 : Contract Try.prog cfg 80 spec80) (hb : ∀ (N : Nat) (t : Tree) (_ : Unit), pre50 (t, ()) → mu50 (t, ()) < N + 1 → Body50 N t) : Contract Try.prog cfg 50 spec50 :=
  contract_rec (μ := mu50) (l := [(80, spec80)]) cfgOk rfl (⟨c80, trivial⟩) lv50 Try.func50 rfl rfl 1 (fun _ => rfl) (by decide) (fun N ⟨t, _⟩ => hb N t ())
noncomputable def know72 (N : Nat) : List (FuncId × Fs U) := (72, fs args72 (fun a => [pre72 a, mu72 a < N]) res72) :: [(60, spec60)]
def lv72 : Lives U := fun i => match i with
  | 0 => ([(1, []), (2, [])], [((.loc 1), []), ((.loc 2), [])])
  | 1 => ([(1, []), (2, []), (8, [])], [((.loc 1), []), ((.loc 2), [])])
  | 2 => ([(2, [])], [((.loc 2), [])])
  | 3 => ([(1, []), (2, []), (3, [])], [((.loc 1), []), ((.loc 2), []), ((.loc 3), [])])
  | 4 => ([(1, []), (2, []), (3, []), (17, []), (18, []), (19, [])], [((.loc 1), []), ((.loc 2), []), ((.loc 3), [.any, .any, .own .tree])])
  | 5 => ([(1, []), (2, []), (3, []), (17, []), (18, []), (19, []), (20, [])], [((.loc 1), []), ((.loc 2), []), ((.loc 3), [])])
  | 6 => ([(1, []), (2, []), (3, []), (5, []), (17, []), (18, []), (19, [])], [((.loc 1), []), ((.loc 2), []), ((.loc 3), []), ((.loc 5), [])])
  | 7 => ([(1, []), (2, []), (3, []), (17, []), (18, []), (19, [])], [((.loc 1), []), ((.loc 2), []), ((.loc 3), [])])
  | 8 => ([(1, []), (2, []), (3, []), (17, []), (18, []), (19, [])], [((.loc 1), []), ((.loc 2), []), ((.loc 3), [.any, .any, .own .tree])])
  | 9 => ([(2, []), (3, []), (33, [])], [((.loc 2), []), ((.loc 3), [.any, .any, .unk .tree])])
  | 10 => ([(2, []), (3, []), (33, []), (48, [])], [((.loc 2), []), ((.loc 3), [.any, .any, .unk .tree])])
  | 11 => ([(2, []), (3, []), (33, [])], [((.loc 2), []), ((.loc 3), [.any, .any, .unk .tree])])
  | 12 => ([(2, []), (3, []), (33, []), (48, []), (72, [])], [((.loc 2), []), ((.loc 3), [])])
  | 13 => ([(2, []), (3, []), (33, []), (48, [])], [((.loc 2), []), ((.loc 3), [.any, .any, .unk .tree])])
  | 14 => ([(2, [])], [((.loc 2), [])])
  | _ => ([], [])
def head72_0 (t : Tree) (x19 : Int) (ml3_2 : List Tree) : LSt U := (⟨[(1, .ptr (.loc 1) 0), (2, .ptr (.loc 2) 0), (3, .ptr (.loc 3) 0), (17, .c (.slice (U := U) .tree (Tree.kids t) .unk)), (18, .c (.int .i64 ((Tree.kids t).length : Int))), (19, .c (.int .i64 x19))], [((.loc 1), [.int .i64 (Tree.kind t), .slice (U := U) .u64 (Tree.words t) .unk, .slice (U := U) .tree (Tree.kids t) .unk]), ((.loc 2), [.int .i64 0, .nils, .nils]), ((.loc 3), [.int .i64 (Tree.kind t), .slice (U := U) .u64 (Tree.words t) .unk, .slice (U := U) .tree ml3_2 (.own (.l 3 2))])], []⟩ : LSt U)
def head72_1 (t : Tree) (ml3_2 : List Tree) (ml3_1_a : List Int) : LSt U := (⟨[(2, .ptr (.loc 2) 0), (3, .ptr (.loc 3) 0), (33, .c (.bool (((Tree.kind t) : Int) == 1)))], [((.loc 2), [.int .i64 0, .nils, .nils]), ((.loc 3), [.int .i64 (Tree.kind t), .slice (U := U) .u64 ml3_1_a .unk, .slice (U := U) .tree ml3_2 .unk])], []⟩ : LSt U)
def head72_2 (t : Tree) (ml3_1_a : List Int) (ml3_2_b : List Tree) : LSt U := (⟨[(2, .ptr (.loc 2) 0), (3, .ptr (.loc 3) 0), (33, .c (.bool (((Tree.kind t) : Int) == 1))), (48, .c (.bool (bif (decide ((0 : Int) < (ml3_1_a.length : Int))) then (((List.getD ml3_1_a (Int.toNat (((ml3_1_a.length : Int) : Int) - 1)) (0 : Int)) : Int) == 0) else false)))], [((.loc 2), [.int .i64 0, .nils, .nils]), ((.loc 3), [.int .i64 (Tree.kind t), .slice (U := U) .u64 ml3_1_a .unk, .slice (U := U) .tree ml3_2_b .unk])], []⟩ : LSt U)
theorem vc72 (N : Nat) (t : Tree) (Q : AExit → LSt U → Prop) (h : ((((((Tree.kind t) : Int) == 0) = true → (Q .ret (⟨[(2, .ptr (.loc 2) 0)], [((.loc 2), [.int .i64 0, .nils, .nils])], []⟩ : LSt U))) ∧ ((((Tree.kind t) : Int) == 0) = false → (pre60 ((Tree.words t), ())) ∧ ((LoopWp (awp cfg (know (know72 N)) (drawOk cfg (know (know72 N))) Try.f72.ntmps lv72 (cd Try.f72 [1, 1, 1, 0, 1, 0, 0])) (head72_0 t 0 ([])) (AExit.inBlock 0 (seqK cfg (know (know72 N)) (drawOk cfg (know (know72 N))) Try.f72.ntmps lv72 (cd Try.f72 [1, 1, 1, 1]) Q)))))))) :
    awp cfg (know (know72 N)) (drawOk cfg (know (know72 N))) Try.f72.ntmps lv72 (cd Try.f72 []) (⟨[(0, .agg [.int .i64 (Tree.kind t), .slice (U := U) .u64 (Tree.words t) .unk, .slice (U := U) .tree (Tree.kids t) .unk])], [], []⟩ : LSt U) Q := by
  have e : (awp cfg (know (know72 N)) (drawOk cfg (know (know72 N))) Try.f72.ntmps lv72 (cd Try.f72 []) (⟨[(0, .agg [.int .i64 (Tree.kind t), .slice (U := U) .u64 (Tree.words t) .unk, .slice (U := U) .tree (Tree.kids t) .unk])], [], []⟩ : LSt U) Q) = (type_of% h) := by kernel_rfl
  exact e.mpr h
theorem vc72_l0 (N : Nat) (t : Tree) (x19 : Int) (ml3_2 : List Tree) (N0 : LSt U → Prop) (Q : AExit → LSt U → Prop) (h : (((decide ((x19 : Int) < ((Tree.kids t).length : Int))) = true → (0 ≤ x19 ∧ x19 < ((Tree.kids t).length : Int)) ∧ ((pre72 ((Tree.mk (Tree.kind (List.getD (Tree.kids t) (Int.toNat x19) Tree.nil)) (Tree.words (List.getD (Tree.kids t) (Int.toNat x19) Tree.nil)) (Tree.kids (List.getD (Tree.kids t) (Int.toNat x19) Tree.nil))), ())) ∧ (mu72 ((Tree.mk (Tree.kind (List.getD (Tree.kids t) (Int.toNat x19) Tree.nil)) (Tree.words (List.getD (Tree.kids t) (Int.toNat x19) Tree.nil)) (Tree.kids (List.getD (Tree.kids t) (Int.toNat x19) Tree.nil))), ()) < N) ∧ ((ml3_2.length + ([(Tree.mk (Tree.kind (normT (Tree.mk (Tree.kind (List.getD (Tree.kids t) (Int.toNat x19) Tree.nil)) (Tree.words (List.getD (Tree.kids t) (Int.toNat x19) Tree.nil)) (Tree.kids (List.getD (Tree.kids t) (Int.toNat x19) Tree.nil))))) (Tree.words (normT (Tree.mk (Tree.kind (List.getD (Tree.kids t) (Int.toNat x19) Tree.nil)) (Tree.words (List.getD (Tree.kids t) (Int.toNat x19) Tree.nil)) (Tree.kids (List.getD (Tree.kids t) (Int.toNat x19) Tree.nil))))) (Tree.kids (normT (Tree.mk (Tree.kind (List.getD (Tree.kids t) (Int.toNat x19) Tree.nil)) (Tree.words (List.getD (Tree.kids t) (Int.toNat x19) Tree.nil)) (Tree.kids (List.getD (Tree.kids t) (Int.toNat x19) Tree.nil))))))]).length) * 56 ≤ 140737488355328) ∧ ((InR ((x19 : Int) + 1)) ∧ (N0 (head72_0 t ((x19 : Int) + 1) (ml3_2 ++ ([(Tree.mk (Tree.kind (normT (Tree.mk (Tree.kind (List.getD (Tree.kids t) (Int.toNat x19) Tree.nil)) (Tree.words (List.getD (Tree.kids t) (Int.toNat x19) Tree.nil)) (Tree.kids (List.getD (Tree.kids t) (Int.toNat x19) Tree.nil))))) (Tree.words (normT (Tree.mk (Tree.kind (List.getD (Tree.kids t) (Int.toNat x19) Tree.nil)) (Tree.words (List.getD (Tree.kids t) (Int.toNat x19) Tree.nil)) (Tree.kids (List.getD (Tree.kids t) (Int.toNat x19) Tree.nil))))) (Tree.kids (normT (Tree.mk (Tree.kind (List.getD (Tree.kids t) (Int.toNat x19) Tree.nil)) (Tree.words (List.getD (Tree.kids t) (Int.toNat x19) Tree.nil)) (Tree.kids (List.getD (Tree.kids t) (Int.toNat x19) Tree.nil))))))]))))))) ∧ ((decide ((x19 : Int) < ((Tree.kids t).length : Int))) = false → (((((Tree.kind t) : Int) == 1) = true → LoopWp (awp cfg (know (know72 N)) (drawOk cfg (know (know72 N))) Try.f72.ntmps lv72 (cd Try.f72 [1, 1, 1, 1, 0, 1, 0, 0, 0, 0])) (head72_1 t ml3_2 (Tree.words t)) (AExit.inBlock 2 (seqK cfg (know (know72 N)) (drawOk cfg (know (know72 N))) Try.f72.ntmps lv72 (cd Try.f72 [1, 1, 1, 1, 0, 1, 0, 1]) (seqK cfg (know (know72 N)) (drawOk cfg (know (know72 N))) Try.f72.ntmps lv72 (cd Try.f72 [1, 1, 1, 1, 1]) Q)))) ∧ ((((Tree.kind t) : Int) == 1) = false → (Q .ret (⟨[(2, .ptr (.loc 2) 0)], [((.loc 2), [.int .i64 (Tree.kind t), .slice (U := U) .u64 (Tree.words t) .unk, .slice (U := U) .tree ml3_2 .unk])], []⟩ : LSt U))))))) :
    awp cfg (know (know72 N)) (drawOk cfg (know (know72 N))) Try.f72.ntmps lv72 (cd Try.f72 [1, 1, 1, 0, 1, 0, 0]) (head72_0 t x19 ml3_2) (AExit.then N0 (AExit.inBlock 0 (seqK cfg (know (know72 N)) (drawOk cfg (know (know72 N))) Try.f72.ntmps lv72 (cd Try.f72 [1, 1, 1, 1]) Q))) := by
  have e : (awp cfg (know (know72 N)) (drawOk cfg (know (know72 N))) Try.f72.ntmps lv72 (cd Try.f72 [1, 1, 1, 0, 1, 0, 0]) (head72_0 t x19 ml3_2) (AExit.then N0 (AExit.inBlock 0 (seqK cfg (know (know72 N)) (drawOk cfg (know (know72 N))) Try.f72.ntmps lv72 (cd Try.f72 [1, 1, 1, 1]) Q)))) = (type_of% h) := by kernel_rfl
  exact e.mpr h
theorem vc72_l1 (N : Nat) (t : Tree) (ml3_2 : List Tree) (ml3_1_a : List Int) (N1 : LSt U → Prop) (Q : AExit → LSt U → Prop) (h : ((decide ((0 : Int) < (ml3_1_a.length : Int))) = true → (decide ((0 : Int) < (ml3_1_a.length : Int))) = true) ∧ ((decide ((0 : Int) < (ml3_1_a.length : Int))) = true → (decide ((0 : Int) < (ml3_1_a.length : Int))) = true) ∧ ((decide ((0 : Int) < (ml3_1_a.length : Int))) = true → (decide ((0 : Int) < (ml3_1_a.length : Int))) = true) ∧ ((decide ((0 : Int) < (ml3_1_a.length : Int))) = true → (decide ((0 : Int) < (ml3_1_a.length : Int))) = true) ∧ ((decide ((0 : Int) < (ml3_1_a.length : Int))) = true → InR (((ml3_1_a.length : Int) : Int) - 1)) ∧ ((decide ((0 : Int) < (ml3_1_a.length : Int))) = true → (decide ((0 : Int) < (ml3_1_a.length : Int))) = true) ∧ ((decide ((0 : Int) < (ml3_1_a.length : Int))) = true → (decide ((0 : Int) < (ml3_1_a.length : Int))) = true) ∧ ((decide ((0 : Int) < (ml3_1_a.length : Int))) = true → 0 ≤ (((ml3_1_a.length : Int) : Int) - 1) ∧ (((ml3_1_a.length : Int) : Int) - 1) < (ml3_1_a.length : Int)) ∧ ((decide ((0 : Int) < (ml3_1_a.length : Int))) = true → (decide ((0 : Int) < (ml3_1_a.length : Int))) = true) ∧ ((decide ((0 : Int) < (ml3_1_a.length : Int))) = true → (decide ((0 : Int) < (ml3_1_a.length : Int))) = true) ∧ (((decide ((0 : Int) < (ml3_1_a.length : Int))) = true → (decide ((0 : Int) < (ml3_1_a.length : Int))) = true)) ∧ (((bif (decide ((0 : Int) < (ml3_1_a.length : Int))) then (((List.getD ml3_1_a (Int.toNat (((ml3_1_a.length : Int) : Int) - 1)) (0 : Int)) : Int) == 0) else false) = true → (InR (((ml3_1_a.length : Int) : Int) - 1)) ∧ (0 ≤ (((ml3_1_a.length : Int) : Int) - 1) ∧ (((ml3_1_a.length : Int) : Int) - 1) ≤ (ml3_1_a.length : Int)) ∧ (N1 (head72_1 t ml3_2 (List.take (Int.toNat (((ml3_1_a.length : Int) : Int) - 1)) ml3_1_a)))) ∧ ((bif (decide ((0 : Int) < (ml3_1_a.length : Int))) then (((List.getD ml3_1_a (Int.toNat (((ml3_1_a.length : Int) : Int) - 1)) (0 : Int)) : Int) == 0) else false) = false → LoopWp (awp cfg (know (know72 N)) (drawOk cfg (know (know72 N))) Try.f72.ntmps lv72 (cd Try.f72 [1, 1, 1, 1, 0, 1, 0, 1, 0, 0])) (head72_2 t ml3_1_a ml3_2) (AExit.inBlock 4 (seqK cfg (know (know72 N)) (drawOk cfg (know (know72 N))) Try.f72.ntmps lv72 (cd Try.f72 [1, 1, 1, 1, 1]) Q))))) :
    awp cfg (know (know72 N)) (drawOk cfg (know (know72 N))) Try.f72.ntmps lv72 (cd Try.f72 [1, 1, 1, 1, 0, 1, 0, 0, 0, 0]) (head72_1 t ml3_2 ml3_1_a) (AExit.then N1 (AExit.inBlock 2 (seqK cfg (know (know72 N)) (drawOk cfg (know (know72 N))) Try.f72.ntmps lv72 (cd Try.f72 [1, 1, 1, 1, 0, 1, 0, 1]) (seqK cfg (know (know72 N)) (drawOk cfg (know (know72 N))) Try.f72.ntmps lv72 (cd Try.f72 [1, 1, 1, 1, 1]) Q)))) := by
  have e : (awp cfg (know (know72 N)) (drawOk cfg (know (know72 N))) Try.f72.ntmps lv72 (cd Try.f72 [1, 1, 1, 1, 0, 1, 0, 0, 0, 0]) (head72_1 t ml3_2 ml3_1_a) (AExit.then N1 (AExit.inBlock 2 (seqK cfg (know (know72 N)) (drawOk cfg (know (know72 N))) Try.f72.ntmps lv72 (cd Try.f72 [1, 1, 1, 1, 0, 1, 0, 1]) (seqK cfg (know (know72 N)) (drawOk cfg (know (know72 N))) Try.f72.ntmps lv72 (cd Try.f72 [1, 1, 1, 1, 1]) Q))))) = (type_of% h) := by kernel_rfl
  exact e.mpr h
theorem vc72_l2 (N : Nat) (t : Tree) (ml3_1_a : List Int) (ml3_2_b : List Tree) (N2 : LSt U → Prop) (Q : AExit → LSt U → Prop) (h : ((decide ((0 : Int) < (ml3_2_b.length : Int))) = true → (decide ((0 : Int) < (ml3_2_b.length : Int))) = true) ∧ ((decide ((0 : Int) < (ml3_2_b.length : Int))) = true → (decide ((0 : Int) < (ml3_2_b.length : Int))) = true) ∧ ((decide ((0 : Int) < (ml3_2_b.length : Int))) = true → (decide ((0 : Int) < (ml3_2_b.length : Int))) = true) ∧ ((decide ((0 : Int) < (ml3_2_b.length : Int))) = true → (decide ((0 : Int) < (ml3_2_b.length : Int))) = true) ∧ ((decide ((0 : Int) < (ml3_2_b.length : Int))) = true → InR (((ml3_2_b.length : Int) : Int) - 1)) ∧ ((decide ((0 : Int) < (ml3_2_b.length : Int))) = true → (decide ((0 : Int) < (ml3_2_b.length : Int))) = true) ∧ ((decide ((0 : Int) < (ml3_2_b.length : Int))) = true → (decide ((0 : Int) < (ml3_2_b.length : Int))) = true) ∧ ((decide ((0 : Int) < (ml3_2_b.length : Int))) = true → 0 ≤ (((ml3_2_b.length : Int) : Int) - 1) ∧ (((ml3_2_b.length : Int) : Int) - 1) < (ml3_2_b.length : Int)) ∧ ((decide ((0 : Int) < (ml3_2_b.length : Int))) = true → (decide ((0 : Int) < (ml3_2_b.length : Int))) = true) ∧ ((decide ((0 : Int) < (ml3_2_b.length : Int))) = true → (decide ((0 : Int) < (ml3_2_b.length : Int))) = true) ∧ ((decide ((0 : Int) < (ml3_2_b.length : Int))) = true → (decide ((0 : Int) < (ml3_2_b.length : Int))) = true) ∧ (((decide ((0 : Int) < (ml3_2_b.length : Int))) = true → (decide ((0 : Int) < (ml3_2_b.length : Int))) = true)) ∧ (((bif (decide ((0 : Int) < (ml3_2_b.length : Int))) then (((Tree.kind (List.getD ml3_2_b (Int.toNat (((ml3_2_b.length : Int) : Int) - 1)) Tree.nil)) : Int) == 0) else false) = true → (InR (((ml3_2_b.length : Int) : Int) - 1)) ∧ (0 ≤ (((ml3_2_b.length : Int) : Int) - 1) ∧ (((ml3_2_b.length : Int) : Int) - 1) ≤ (ml3_2_b.length : Int)) ∧ (N2 (head72_2 t ml3_1_a (List.take (Int.toNat (((ml3_2_b.length : Int) : Int) - 1)) ml3_2_b)))) ∧ ((bif (decide ((0 : Int) < (ml3_2_b.length : Int))) then (((Tree.kind (List.getD ml3_2_b (Int.toNat (((ml3_2_b.length : Int) : Int) - 1)) Tree.nil)) : Int) == 0) else false) = false → (Q .ret (⟨[(2, .ptr (.loc 2) 0)], [((.loc 2), [.int .i64 (Tree.kind t), .slice (U := U) .u64 ml3_1_a .unk, .slice (U := U) .tree ml3_2_b .unk])], []⟩ : LSt U))))) :
    awp cfg (know (know72 N)) (drawOk cfg (know (know72 N))) Try.f72.ntmps lv72 (cd Try.f72 [1, 1, 1, 1, 0, 1, 0, 1, 0, 0]) (head72_2 t ml3_1_a ml3_2_b) (AExit.then N2 (AExit.inBlock 4 (seqK cfg (know (know72 N)) (drawOk cfg (know (know72 N))) Try.f72.ntmps lv72 (cd Try.f72 [1, 1, 1, 1, 1]) Q))) := by
  have e : (awp cfg (know (know72 N)) (drawOk cfg (know (know72 N))) Try.f72.ntmps lv72 (cd Try.f72 [1, 1, 1, 1, 0, 1, 0, 1, 0, 0]) (head72_2 t ml3_1_a ml3_2_b) (AExit.then N2 (AExit.inBlock 4 (seqK cfg (know (know72 N)) (drawOk cfg (know (know72 N))) Try.f72.ntmps lv72 (cd Try.f72 [1, 1, 1, 1, 1]) Q)))) = (type_of% h) := by kernel_rfl
  exact e.mpr h
def Body72 (N : Nat) (t : Tree)  : Prop := awp cfg (know (know72 N)) (drawOk cfg (know (know72 N))) Try.f72.ntmps lv72 (cd Try.f72 []) (entry (args72.can (t, ())) []) (EndsQ cfg Try.f72.ntmps Try.f72.results.toList (res72 (t, ())) [])
theorem make72 (c60 : Contract Try.prog cfg 60 spec60) (hb : ∀ (N : Nat) (t : Tree) (_ : Unit), pre72 (t, ()) → mu72 (t, ()) < N + 1 → Body72 N t) : Contract Try.prog cfg 72 spec72 :=
  contract_rec (μ := mu72) (l := [(60, spec60)]) cfgOk rfl (⟨c60, trivial⟩) lv72 Try.func72 rfl rfl 1 (fun _ => rfl) (by decide) (fun N ⟨t, _⟩ => hb N t ())
noncomputable def know49 (N : Nat) : List (FuncId × Fs U) := (49, fs args49 (fun a => [pre49 a, mu49 a < N]) res49) :: [(37, spec37)]
def lv49 : Lives U := fun i => match i with
  | 0 => ([(2, []), (3, [])], [((.loc 2), []), ((.loc 3), [])])
  | 1 => ([(2, []), (3, []), (27, [])], [((.loc 2), []), ((.loc 3), [])])
  | 2 => ([(4, [])], [])
  | 3 => ([(2, []), (3, []), (5, [])], [((.loc 2), []), ((.loc 3), [])])
  | 4 => ([(2, []), (3, []), (5, []), (32, [])], [((.loc 2), []), ((.loc 3), [])])
  | 5 => ([(2, []), (3, []), (5, [])], [((.loc 2), []), ((.loc 3), [])])
  | 6 => ([(2, []), (3, []), (5, []), (46, [])], [((.loc 2), []), ((.loc 3), [])])
  | 7 => ([(4, [])], [])
  | 8 => ([(4, [])], [])
  | _ => ([], [])
def head49_0 (a : Tree) (b : Tree) (x5 : Int) : LSt U := (⟨[(2, .ptr (.loc 2) 0), (3, .ptr (.loc 3) 0), (5, .c (.int .i64 x5))], [((.loc 2), [.int .i64 (Tree.kind a), .slice (U := U) .u64 (Tree.words a) .unk, .slice (U := U) .tree (Tree.kids a) .unk]), ((.loc 3), [.int .i64 (Tree.kind b), .slice (U := U) .u64 (Tree.words b) .unk, .slice (U := U) .tree (Tree.kids b) .unk])], []⟩ : LSt U)
theorem vc49 (N : Nat) (a : Tree) (b : Tree) (Q : AExit → LSt U → Prop) (h : (((!(((Tree.kind a) : Int) != (Tree.kind b))) = true → (!(((Tree.kind a) : Int) != (Tree.kind b))) = true) ∧ ((!(((Tree.kind a) : Int) != (Tree.kind b))) = true → (!(((Tree.kind a) : Int) != (Tree.kind b))) = true) ∧ ((!(((Tree.kind a) : Int) != (Tree.kind b))) = true → (!(((Tree.kind a) : Int) != (Tree.kind b))) = true) ∧ ((!(((Tree.kind a) : Int) != (Tree.kind b))) = true → (!(((Tree.kind a) : Int) != (Tree.kind b))) = true) ∧ ((!(((Tree.kind a) : Int) != (Tree.kind b))) = true → pre37 ((Tree.words a), (Tree.words b), ())) ∧ ((!(((Tree.kind a) : Int) != (Tree.kind b))) = true → (!(((Tree.kind a) : Int) != (Tree.kind b))) = true) ∧ (((((Tree.kind a) : Int) != (Tree.kind b)) = false → (!(((Tree.kind a) : Int) != (Tree.kind b))) = true)) ∧ ((!(bif (((Tree.kind a) : Int) != (Tree.kind b)) then true else (!(decide ((Tree.words a) = (Tree.words b)))))) = true → (!(bif (((Tree.kind a) : Int) != (Tree.kind b)) then true else (!(decide ((Tree.words a) = (Tree.words b)))))) = true) ∧ ((!(bif (((Tree.kind a) : Int) != (Tree.kind b)) then true else (!(decide ((Tree.words a) = (Tree.words b)))))) = true → (!(bif (((Tree.kind a) : Int) != (Tree.kind b)) then true else (!(decide ((Tree.words a) = (Tree.words b)))))) = true) ∧ ((!(bif (((Tree.kind a) : Int) != (Tree.kind b)) then true else (!(decide ((Tree.words a) = (Tree.words b)))))) = true → (!(bif (((Tree.kind a) : Int) != (Tree.kind b)) then true else (!(decide ((Tree.words a) = (Tree.words b)))))) = true) ∧ ((!(bif (((Tree.kind a) : Int) != (Tree.kind b)) then true else (!(decide ((Tree.words a) = (Tree.words b)))))) = true → (!(bif (((Tree.kind a) : Int) != (Tree.kind b)) then true else (!(decide ((Tree.words a) = (Tree.words b)))))) = true) ∧ ((!(bif (((Tree.kind a) : Int) != (Tree.kind b)) then true else (!(decide ((Tree.words a) = (Tree.words b)))))) = true → (!(bif (((Tree.kind a) : Int) != (Tree.kind b)) then true else (!(decide ((Tree.words a) = (Tree.words b)))))) = true) ∧ ((!(bif (((Tree.kind a) : Int) != (Tree.kind b)) then true else (!(decide ((Tree.words a) = (Tree.words b)))))) = true → (!(bif (((Tree.kind a) : Int) != (Tree.kind b)) then true else (!(decide ((Tree.words a) = (Tree.words b)))))) = true) ∧ (((bif (((Tree.kind a) : Int) != (Tree.kind b)) then true else (!(decide ((Tree.words a) = (Tree.words b))))) = false → (!(bif (((Tree.kind a) : Int) != (Tree.kind b)) then true else (!(decide ((Tree.words a) = (Tree.words b)))))) = true)) ∧ (((bif (bif (((Tree.kind a) : Int) != (Tree.kind b)) then true else (!(decide ((Tree.words a) = (Tree.words b))))) then true else ((((Tree.kids a).length : Int) : Int) != ((Tree.kids b).length : Int))) = true → (Q .ret (⟨[(4, .c (.bool false))], [], []⟩ : LSt U))) ∧ ((bif (bif (((Tree.kind a) : Int) != (Tree.kind b)) then true else (!(decide ((Tree.words a) = (Tree.words b))))) then true else ((((Tree.kids a).length : Int) : Int) != ((Tree.kids b).length : Int))) = false → (LoopWp (awp cfg (know (know49 N)) (drawOk cfg (know (know49 N))) Try.f49.ntmps lv49 (cd Try.f49 [1, 1, 0, 1, 0, 0])) (head49_0 a b 0) (AExit.inBlock 0 (seqK cfg (know (know49 N)) (drawOk cfg (know (know49 N))) Try.f49.ntmps lv49 (cd Try.f49 [1, 1, 1]) Q))))))) :
    awp cfg (know (know49 N)) (drawOk cfg (know (know49 N))) Try.f49.ntmps lv49 (cd Try.f49 []) (⟨[(0, .agg [.int .i64 (Tree.kind a), .slice (U := U) .u64 (Tree.words a) .unk, .slice (U := U) .tree (Tree.kids a) .unk]), (1, .agg [.int .i64 (Tree.kind b), .slice (U := U) .u64 (Tree.words b) .unk, .slice (U := U) .tree (Tree.kids b) .unk])], [], []⟩ : LSt U) Q := by
  have e : (awp cfg (know (know49 N)) (drawOk cfg (know (know49 N))) Try.f49.ntmps lv49 (cd Try.f49 []) (⟨[(0, .agg [.int .i64 (Tree.kind a), .slice (U := U) .u64 (Tree.words a) .unk, .slice (U := U) .tree (Tree.kids a) .unk]), (1, .agg [.int .i64 (Tree.kind b), .slice (U := U) .u64 (Tree.words b) .unk, .slice (U := U) .tree (Tree.kids b) .unk])], [], []⟩ : LSt U) Q) = (type_of% h) := by kernel_rfl
  exact e.mpr h
theorem vc49_l0 (N : Nat) (a : Tree) (b : Tree) (x5 : Int) (N0 : LSt U → Prop) (Q : AExit → LSt U → Prop) (h : (((decide ((x5 : Int) < ((Tree.kids a).length : Int))) = true → (0 ≤ x5 ∧ x5 < ((Tree.kids a).length : Int)) ∧ (0 ≤ x5 ∧ x5 < ((Tree.kids b).length : Int)) ∧ (pre49 ((Tree.mk (Tree.kind (List.getD (Tree.kids a) (Int.toNat x5) Tree.nil)) (Tree.words (List.getD (Tree.kids a) (Int.toNat x5) Tree.nil)) (Tree.kids (List.getD (Tree.kids a) (Int.toNat x5) Tree.nil))), (Tree.mk (Tree.kind (List.getD (Tree.kids b) (Int.toNat x5) Tree.nil)) (Tree.words (List.getD (Tree.kids b) (Int.toNat x5) Tree.nil)) (Tree.kids (List.getD (Tree.kids b) (Int.toNat x5) Tree.nil))), ())) ∧ (mu49 ((Tree.mk (Tree.kind (List.getD (Tree.kids a) (Int.toNat x5) Tree.nil)) (Tree.words (List.getD (Tree.kids a) (Int.toNat x5) Tree.nil)) (Tree.kids (List.getD (Tree.kids a) (Int.toNat x5) Tree.nil))), (Tree.mk (Tree.kind (List.getD (Tree.kids b) (Int.toNat x5) Tree.nil)) (Tree.words (List.getD (Tree.kids b) (Int.toNat x5) Tree.nil)) (Tree.kids (List.getD (Tree.kids b) (Int.toNat x5) Tree.nil))), ()) < N) ∧ (((!(sameT (Tree.mk (Tree.kind (List.getD (Tree.kids a) (Int.toNat x5) Tree.nil)) (Tree.words (List.getD (Tree.kids a) (Int.toNat x5) Tree.nil)) (Tree.kids (List.getD (Tree.kids a) (Int.toNat x5) Tree.nil))) (Tree.mk (Tree.kind (List.getD (Tree.kids b) (Int.toNat x5) Tree.nil)) (Tree.words (List.getD (Tree.kids b) (Int.toNat x5) Tree.nil)) (Tree.kids (List.getD (Tree.kids b) (Int.toNat x5) Tree.nil))))) = true → (Q .ret (⟨[(4, .c (.bool false))], [], []⟩ : LSt U))) ∧ ((!(sameT (Tree.mk (Tree.kind (List.getD (Tree.kids a) (Int.toNat x5) Tree.nil)) (Tree.words (List.getD (Tree.kids a) (Int.toNat x5) Tree.nil)) (Tree.kids (List.getD (Tree.kids a) (Int.toNat x5) Tree.nil))) (Tree.mk (Tree.kind (List.getD (Tree.kids b) (Int.toNat x5) Tree.nil)) (Tree.words (List.getD (Tree.kids b) (Int.toNat x5) Tree.nil)) (Tree.kids (List.getD (Tree.kids b) (Int.toNat x5) Tree.nil))))) = false → (InR ((x5 : Int) + 1)) ∧ (N0 (head49_0 a b ((x5 : Int) + 1)))))) ∧ ((decide ((x5 : Int) < ((Tree.kids a).length : Int))) = false → (Q .ret (⟨[(4, .c (.bool true))], [], []⟩ : LSt U))))) :
    awp cfg (know (know49 N)) (drawOk cfg (know (know49 N))) Try.f49.ntmps lv49 (cd Try.f49 [1, 1, 0, 1, 0, 0]) (head49_0 a b x5) (AExit.then N0 (AExit.inBlock 0 (seqK cfg (know (know49 N)) (drawOk cfg (know (know49 N))) Try.f49.ntmps lv49 (cd Try.f49 [1, 1, 1]) Q))) := by
  have e : (awp cfg (know (know49 N)) (drawOk cfg (know (know49 N))) Try.f49.ntmps lv49 (cd Try.f49 [1, 1, 0, 1, 0, 0]) (head49_0 a b x5) (AExit.then N0 (AExit.inBlock 0 (seqK cfg (know (know49 N)) (drawOk cfg (know (know49 N))) Try.f49.ntmps lv49 (cd Try.f49 [1, 1, 1]) Q)))) = (type_of% h) := by kernel_rfl
  exact e.mpr h
def Body49 (N : Nat) (a : Tree) (b : Tree)  : Prop := awp cfg (know (know49 N)) (drawOk cfg (know (know49 N))) Try.f49.ntmps lv49 (cd Try.f49 []) (entry (args49.can (a, b, ())) []) (EndsQ cfg Try.f49.ntmps Try.f49.results.toList (res49 (a, b, ())) [])
theorem make49 (c37 : Contract Try.prog cfg 37 spec37) (hb : ∀ (N : Nat) (a : Tree) (b : Tree) (_ : Unit), pre49 (a, b, ()) → mu49 (a, b, ()) < N + 1 → Body49 N a b) : Contract Try.prog cfg 49 spec49 :=
  contract_rec (μ := mu49) (l := [(37, spec37)]) cfgOk rfl (⟨c37, trivial⟩) lv49 Try.func49 rfl rfl 2 (fun _ => rfl) (by decide) (fun N ⟨a, b, _⟩ => hb N a b ())
end Go.AM.Ythokdjgpdonhgaa

namespace Go.AM.Ythokdjgpdonhgaa
open Go.AM Go.Proofs
theorem smallK_get : ∀ {ks : List Tree} {i : Nat}, smallK ks → i < ks.length → small (ks.getD i Tree.nil)
  | t :: _, 0, h, _ => by simp only [smallK] at h; exact h.1
  | _ :: r, i + 1, h, hi => by simp only [smallK] at h; exact smallK_get (ks := r) (i := i) h.2 (by simpa using hi)
theorem massK_get : ∀ {ks : List Tree} {i : Nat}, i < ks.length → mass (ks.getD i Tree.nil) ≤ massK ks
  | t :: _, 0, _ => by simp only [massK, List.getD_cons_zero]; omega
  | t :: r, i + 1, h => by
    have := massK_get (ks := r) (i := i) (by simpa using h)
    simp only [massK, List.getD_cons_succ]
    omega
mutual
theorem shallow_range : ∀ (t : Tree) (d l : Int), -1 ≤ shallow t d l ∧ shallow t d l ≤ max l (-1)
  | .mk _ w ks, d, l => by
    simp only [shallow]
    split
    · omega
    · have := shallowK_range ks (d - 1) (l - 1 - w.length) (by omega)
      omega
theorem shallowK_range : ∀ (ks : List Tree) (d l : Int), -1 ≤ l → -1 ≤ shallowK ks d l ∧ shallowK ks d l ≤ l
  | [], d, l, h => by simp only [shallowK]; omega
  | t :: r, d, l, h => by
    simp only [shallowK]
    split
    · omega
    · have h1 := shallow_range t d l
      have h2 := shallowK_range r d (shallow t d l) h1.1
      omega
end
theorem shallowK_drop {ks : List Tree} {i : Nat} {d l : Int} (h : i < ks.length) (hl : 0 ≤ l) : shallowK (ks.drop i) d l = shallowK (ks.drop (i + 1)) d (shallow (ks.getD i Tree.nil) d l) := by
  rw [List.drop_eq_getElem_cons h]
  simp only [shallowK]
  rw [if_neg (by omega)]
  simp [List.getD, h]
theorem c70 : Contract Try.prog cfg 70 spec70 := by
  refine make70 ?_
  rintro N ⟨k, ws, ks⟩ d l _ ⟨hs, h1, h2, h3, h4⟩ hN
  simp only [small, mu70, mass] at *
  refine vc70 N _ _ _ _ ?_
  (simp only [vcS])
  (simp only [Tree.eta, Tree.kind_mk, Tree.words_mk, Tree.kids_mk])
  refine ⟨by unfold InR; omega, by unfold InR; omega, by omega, by omega, fun hc => ?_, fun hc => ?_⟩
  · have e : shallow (.mk k ws ks) d l = -1 := by
      simp only [shallow]
      rw [if_pos (by omega)]
    simp only [res70, e]
    exact ⟨⟨rfl, ⟨⟨rfl, rfl⟩, trivial⟩, trivial⟩, trivial⟩
  · have e : shallow (.mk k ws ks) d l = shallowK ks (d - 1) (l - 1 - ws.length) := by
      simp only [shallow]
      rw [if_neg (by omega)]
    simp only [res70, e]
    refine loop_rule (ι := Int × Int) (fun p => head70_0 (.mk k ws ks) d l p.1 p.2) (fun p => 0 ≤ p.2 ∧ p.2 ≤ ks.length ∧ -1 ≤ p.1 ∧ p.1 ≤ l ∧ shallowK (ks.drop p.2.toNat) (d - 1) p.1 = shallowK ks (d - 1) (l - 1 - ws.length)) (fun p => ((ks.length : Int) - p.2).toNat) (l - 1 - ws.length, 0) rfl ⟨by omega, by omega, by omega, by omega, by simp⟩ ?_
    rintro ⟨l', i⟩ ⟨h5, h6, h7, h8, h9⟩
    dsimp only at *
    refine vc70_l0 N _ _ _ _ _ _ _ ?_
    (simp only [vcS])
    (simp only [Tree.eta, Tree.kind_mk, Tree.words_mk, Tree.kids_mk])
    refine ⟨by omega, by omega, fun hc => ?_, fun hc => ?_⟩
    · have hi : i.toNat < ks.length := by omega
      have hr := shallow_range (ks.getD i.toNat Tree.nil) (d - 1) l'
      have hn := massK_get hi
      have hd := shallowK_drop (d := d - 1) hi hc.2
      refine ⟨by omega, by unfold InR; omega, ⟨smallK_get hs.2.2 hi, by dsimp only; omega, by dsimp only; omega, by dsimp only; omega, by dsimp only; omega⟩, by simp only [mu70]; omega, by unfold InR; omega, ⟨(shallow (ks.getD i.toNat Tree.nil) (d - 1) l', i + 1), rfl, ⟨by dsimp only; omega, by dsimp only; omega, by dsimp only; omega, by dsimp only; omega, ?_⟩, by dsimp only; omega⟩⟩
      dsimp only
      rw [← h9, hd]
      congr 2
      omega
    · have e : shallowK ks (d - 1) (l - 1 - ws.length) = l' := by
        rw [← h9]
        by_cases hi : i < ks.length
        · rw [List.drop_eq_getElem_cons (by omega)]
          simp only [shallowK]
          rw [if_pos (by omega)]
        · rw [List.drop_eq_nil_of_le (by omega)]
          simp only [shallowK]
      rw [e]
      exact ⟨⟨rfl, ⟨⟨rfl, rfl⟩, trivial⟩, trivial⟩, trivial⟩
theorem c33 : Contract Try.prog cfg 33 spec33 := by
  refine make33 c70 ?_
  intro t _ hp
  refine vc33 _ _ ?_
  (simp only [Tree.eta, Tree.kind_mk, Tree.words_mk, Tree.kids_mk])
  refine ⟨⟨hp, by dsimp only; omega, by dsimp only; omega, by dsimp only; omega, by dsimp only; omega⟩, ?_⟩
  exact ⟨⟨rfl, ⟨rfl, trivial⟩, trivial⟩, trivial⟩
theorem drop_eq {a b : List Int} {i : Int} (hi : 0 ≤ i) (ha : i < a.length) (hb : i < b.length) : (a.drop i.toNat = b.drop i.toNat) ↔ (a.getD i.toNat 0 = b.getD i.toNat 0 ∧ a.drop (i + 1).toNat = b.drop (i + 1).toNat) := by
  have e : (i + 1).toNat = i.toNat + 1 := by omega
  rw [List.drop_eq_getElem_cons (by omega), List.drop_eq_getElem_cons (l := b) (by omega), e]
  simp only [List.cons.injEq, List.getD, List.getElem?_eq_getElem (show i.toNat < a.length by omega), List.getElem?_eq_getElem (show i.toNat < b.length by omega), Option.getD_some]
theorem c100 : Contract Try.prog cfg 100 spec100 := by
  refine make100 ?_
  intro t i _ hp
  refine vc100 _ _ _ ?_
  (simp only [vcS])
  (repeat (refine And.intro (by first | omega | (unfold InR; omega) | (dsimp only; omega)) ?_))
  refine ⟨fun hc => ?_, fun hc => ⟨by omega, ?_⟩⟩
  · have e : wordAt t i = 0 := by
      unfold wordAt
      split
      · rfl
      · rw [List.getD, List.getElem?_eq_none (by omega)]
        rfl
    simp only [res100, e]
    exact ⟨⟨rfl, ⟨⟨rfl, rfl⟩, trivial⟩, trivial⟩, trivial⟩
  · have e : wordAt t i = t.words.getD i.toNat 0 := by
      unfold wordAt
      rw [if_neg (by omega)]
    simp only [res100, e]
    exact ⟨⟨rfl, ⟨⟨rfl, rfl⟩, trivial⟩, trivial⟩, trivial⟩
theorem c81 : Contract Try.prog cfg 81 spec81 := by
  refine make81 ?_
  intro a b _ hp
  simp only [pre81] at hp
  refine vc81 _ _ _ ?_
  (simp only [vcS])
  refine ⟨fun hc => ?_, fun hc => ?_⟩
  · have e : decide (a = b) = false := by
      simp only [decide_eq_false_iff_not]
      rintro rfl
      omega
    simp only [res81, e]
    exact ⟨⟨rfl, ⟨rfl, trivial⟩, trivial⟩, trivial⟩
  · have hl : a.length = b.length := by omega
    refine loop_rule (ι := Int) (fun p => head81_0 a b p) (fun p => 0 ≤ p ∧ p ≤ a.length ∧ (a = b ↔ a.drop p.toNat = b.drop p.toNat)) (fun p => ((a.length : Int) - p).toNat) 0 rfl ⟨by omega, by omega, by simp⟩ ?_
    rintro i ⟨h1, h2, h3⟩
    refine vc81_l0 _ _ _ _ _ ?_
    (simp only [vcS])
    refine ⟨fun hc => ⟨by omega, by omega, fun hn => ?_, fun he => ⟨by unfold InR; omega, i + 1, rfl, ⟨by omega, by omega, ?_⟩, by omega⟩⟩, fun hc => ?_⟩
    · have e : decide (a = b) = false := by
        simp only [decide_eq_false_iff_not, h3]
        rw [drop_eq h1 hc (by omega)]
        exact fun h => hn h.1
      simp only [res81, e]
      exact ⟨⟨rfl, ⟨rfl, trivial⟩, trivial⟩, trivial⟩
    · rw [h3, drop_eq h1 hc (by omega)]
      exact ⟨fun h => h.2, fun h => ⟨by simpa using he, h⟩⟩
    · have e : decide (a = b) = true := by
        simp only [decide_eq_true_eq, h3]
        rw [List.drop_eq_nil_of_le (by omega), List.drop_eq_nil_of_le (by omega)]
      simp only [res81, e]
      exact ⟨⟨rfl, ⟨rfl, trivial⟩, trivial⟩, trivial⟩
theorem dropT_eq {a b : List Tree} {i : Int} (hi : 0 ≤ i) (ha : i < a.length) (hb : i < b.length) : (a.drop i.toNat = b.drop i.toNat) ↔ (a.getD i.toNat Tree.nil = b.getD i.toNat Tree.nil ∧ a.drop (i + 1).toNat = b.drop (i + 1).toNat) := by
  have e : (i + 1).toNat = i.toNat + 1 := by omega
  rw [List.drop_eq_getElem_cons (by omega), List.drop_eq_getElem_cons (l := b) (by omega), e]
  simp only [List.cons.injEq, List.getD, List.getElem?_eq_getElem (show i.toNat < a.length by omega), List.getElem?_eq_getElem (show i.toNat < b.length by omega), Option.getD_some]
theorem sameT_true {a b : Tree} : sameT a b = true ↔ a = b := by simp [sameT]
theorem sameT_false {a b : Tree} : sameT a b = false ↔ ¬ a = b := by simp [sameT]
theorem massK_len : ∀ (ks : List Tree), ks.length ≤ massK ks
  | [] => by simp [massK]
  | t :: r => by
    have := massK_len r
    have : 1 ≤ mass t := by cases t; simp only [mass]; omega
    simp only [massK, List.length_cons]
    omega
theorem c49 : Contract Try.prog cfg 49 spec49 := by
  refine make49 c37 ?_
  rintro N ⟨k, ws, ks⟩ ⟨k', ws', ks'⟩ _ hp hN
  have hlen := massK_len ks
  simp only [pre49, mu49, mass] at hp hN
  refine vc49 N _ _ _ ?_
  (simp only [vcS])
  (simp only [Tree.eta, Tree.kind_mk, Tree.words_mk, Tree.kids_mk])
  have p69 : pre37 (ws, ws', ()) := by simp only [pre37]; omega
  refine ⟨id, id, id, id, fun _ => p69, id, id, id, id, id, id, id, id, by simp, fun hc => ?_, fun hc => ?_⟩
  · have e : sameT (.mk k ws ks) (.mk k' ws' ks') = false := by
      rw [sameT_false]
      intro h
      cases h
      simp at hc
    simp only [res49, e]
    exact ⟨⟨rfl, ⟨rfl, trivial⟩, trivial⟩, trivial⟩
  · have hc' : (k = k' ∧ ws = ws') ∧ ks.length = ks'.length := ⟨hc.1, by have := hc.2; omega⟩
    obtain ⟨⟨rfl, rfl⟩, hl⟩ := hc'
    refine loop_rule (ι := Int) (fun p => head49_0 (.mk k ws ks) (.mk k ws ks') p) (fun p => 0 ≤ p ∧ p ≤ ks.length ∧ (Tree.mk k ws ks = .mk k ws ks' ↔ ks.drop p.toNat = ks'.drop p.toNat)) (fun p => ((ks.length : Int) - p).toNat) 0 rfl ⟨by omega, by omega, by simp⟩ ?_
    rintro i ⟨h1, h2, h3⟩
    refine vc49_l0 N _ _ _ _ _ ?_
    (simp only [vcS])
    (simp only [Tree.eta, Tree.kind_mk, Tree.words_mk, Tree.kids_mk])
    refine ⟨fun hc => ⟨by omega, by omega, ?_, ?_, fun hn => ?_, fun he => ⟨by unfold InR; omega, i + 1, rfl, ⟨by omega, by omega, ?_⟩, by omega⟩⟩, fun hc => ?_⟩
    · have := massK_get (ks := ks) (i := i.toNat) (by omega)
      simp only [pre49]
      omega
    · have := massK_get (ks := ks) (i := i.toNat) (by omega)
      simp only [mu49]
      omega
    · have e : sameT (.mk k ws ks) (.mk k ws ks') = false := by
        rw [sameT_false, h3, dropT_eq h1 hc (by omega)]
        rw [sameT_false] at hn
        exact fun h => hn h.1
      simp only [res49, e]
      exact ⟨⟨rfl, ⟨rfl, trivial⟩, trivial⟩, trivial⟩
    · rw [h3, dropT_eq h1 hc (by omega)]
      exact ⟨fun h => h.2, fun h => ⟨sameT_true.1 he, h⟩⟩
    · have e : sameT (.mk k ws ks) (.mk k ws ks') = true := by
        rw [sameT_true, h3]
        rw [List.drop_eq_nil_of_le (by omega), List.drop_eq_nil_of_le (by omega)]
      simp only [res49, e]
      exact ⟨⟨rfl, ⟨rfl, trivial⟩, trivial⟩, trivial⟩
theorem trim_zero : ∀ (l : List Int), trim (l ++ [0]) = trim l
  | [] => rfl
  | x :: r => by
    show (match trim (r ++ [0]) with | [] => if x = 0 then [] else [x] | y :: s => x :: y :: s) = _
    rw [trim_zero r]
    rfl
theorem trim_ne {x : Int} (hx : x ≠ 0) : ∀ (l : List Int), trim (l ++ [x]) = l ++ [x]
  | [] => by simp [trim, hx]
  | y :: r => by
    show (match trim (r ++ [x]) with | [] => if y = 0 then [] else [y] | z :: s => y :: z :: s) = _
    rw [trim_ne hx r]
    cases r <;> rfl
theorem take_last {l : List Int} {i : Int} (h0 : 0 < i) (hi : i ≤ l.length) : l.take i.toNat = l.take (i - 1).toNat ++ [l.getD (i - 1).toNat 0] := by
  have e : i.toNat = (i - 1).toNat + 1 := by omega
  rw [e, List.take_add_one]
  simp only [List.getD, List.getElem?_eq_getElem (show (i - 1).toNat < l.length by omega), Option.toList, Option.getD_some]
theorem c80 : Contract Try.prog cfg 80 spec80 := by
  refine make80 ?_
  intro l _ hp
  simp only [pre80] at hp
  refine vc80 _ _ ?_
  refine loop_rule (ι := Int) (fun p => head80_0 l p) (fun p => 0 ≤ p ∧ p ≤ l.length ∧ trim (l.take p.toNat) = trim l) (fun p => p.toNat) (l.length : Int) rfl ⟨by omega, by omega, by simp⟩ ?_
  rintro i ⟨h1, h2, h3⟩
  refine vc80_l0 _ _ _ _ ?_
  (simp only [vcS])
  refine ⟨id, fun h => by unfold InR; omega, id, id, fun h => by omega, id, id, id, fun hc => ⟨by unfold InR; omega, i - 1, rfl, ⟨by omega, by omega, ?_⟩, by omega⟩, fun hc => ⟨by omega, ?_, ?_⟩⟩
  · rw [take_last hc.1 h2, hc.2, trim_zero] at h3
    exact h3
  · simp only [List.length_nil, List.length_take]
    omega
  · have e : trim l = [] ++ l.take i.toNat := by
      rw [← h3]
      by_cases h0 : 0 < i
      · rw [take_last h0 h2, trim_ne (by rcases hc with h | h; exact absurd h0 h; exact h)]
        rfl
      · have : i.toNat = 0 := by omega
        rw [this]
        rfl
    simp only [res80, e]
    exact ⟨⟨rfl, ⟨⟨rfl, trivial⟩, trivial⟩, trivial⟩, trivial⟩
theorem trim_len : ∀ (l : List Int), (trim l).length ≤ l.length
  | [] => by simp [trim]
  | x :: r => by
    have := trim_len r
    simp only [trim]
    split
    · split <;> simp
    · rename_i h
      rw [h] at this
      simp at *
      omega
theorem trimK_mass : ∀ (l : List Tree), massK (trimK l) ≤ massK l
  | [] => by simp [trimK]
  | x :: r => by
    have := trimK_mass r
    simp only [trimK]
    split
    · split
      · simp [massK]
      · simp [massK]
    · rename_i h
      rw [h] at this
      simp only [massK] at *
      omega
mutual
theorem normT_mass : ∀ (t : Tree), mass (normT t) ≤ mass t
  | .mk k w ks => by
    have h1 := normK_mass ks
    have h2 := trim_len w
    have h3 := trimK_mass (normK ks)
    simp only [normT]
    split
    · simp only [Tree.nil, mass, massK, List.length_nil]; omega
    · split
      · simp only [mass]; omega
      · simp only [mass]; omega
theorem normK_mass : ∀ (ks : List Tree), massK (normK ks) ≤ massK ks
  | [] => by simp [normK]
  | t :: r => by
    have h1 := normT_mass t
    have h2 := normK_mass r
    simp only [normK, massK]
    omega
end
theorem normK_app : ∀ (l : List Tree) (x : Tree), normK (l ++ [x]) = normK l ++ [normT x]
  | [], x => rfl
  | y :: r, x => by simp only [List.cons_append, normK, normK_app r x]
theorem normK_len : ∀ (l : List Tree), (normK l).length = l.length
  | [] => rfl
  | y :: r => by simp only [normK, List.length_cons, normK_len r]
theorem trimK_zero {x : Tree} (hx : x.kind = 0) : ∀ (l : List Tree), trimK (l ++ [x]) = trimK l
  | [] => by simp [trimK, hx]
  | y :: r => by
    show (match trimK (r ++ [x]) with | [] => if y.kind = 0 then [] else [y] | z :: s => y :: z :: s) = _
    rw [trimK_zero hx r]
    rfl
theorem trimK_ne {x : Tree} (hx : x.kind ≠ 0) : ∀ (l : List Tree), trimK (l ++ [x]) = l ++ [x]
  | [] => by simp [trimK, hx]
  | y :: r => by
    show (match trimK (r ++ [x]) with | [] => if y.kind = 0 then [] else [y] | z :: s => y :: z :: s) = _
    rw [trimK_ne hx r]
    cases r <;> rfl
theorem takeT_next {l : List Tree} {i : Int} (h0 : 0 ≤ i) (hi : i < l.length) : l.take (i + 1).toNat = l.take i.toNat ++ [l.getD i.toNat Tree.nil] := by
  have e : (i + 1).toNat = i.toNat + 1 := by omega
  rw [e, List.take_add_one]
  simp only [List.getD, List.getElem?_eq_getElem (show i.toNat < l.length by omega), Option.toList, Option.getD_some]
theorem c50 : Contract Try.prog cfg 50 spec50 := by
  refine make50 c80 ?_
  rintro N ⟨k, ws, ks⟩ _ hp hN
  have hlen := massK_len ks
  simp only [pre50, mu50, mass] at hp hN
  refine vc50 N _ _ ?_
  (simp only [vcS])
  (simp only [Tree.eta, Tree.kind_mk, Tree.words_mk, Tree.kids_mk])
  refine ⟨fun hc => ?_, fun hc0 => ?_⟩
  · have e : normT (.mk k ws ks) = Tree.nil := by simp [normT, hc]
    simp only [res50, e]
    exact ⟨⟨rfl, ⟨⟨rfl, rfl⟩, ⟨rfl, ⟨rfl, trivial⟩⟩⟩, trivial⟩, trivial⟩
  · refine loop_rule (ι := Int × Int × List Tree) (fun p => head50_0 (.mk k ws ks) p.1 p.2.1 p.2.2) (fun p => 0 ≤ p.2.1 ∧ p.2.1 ≤ ks.length ∧ 0 ≤ p.1 ∧ p.1 ≤ p.2.1 ∧ p.2.2 = normK (ks.take p.2.1.toNat) ∧ trimK (normK (ks.take p.2.1.toNat)) = p.2.2.take p.1.toNat) (fun p => ((ks.length : Int) - p.2.1).toNat) (0, 0, []) rfl ⟨by dsimp only; omega, by dsimp only; omega, by dsimp only; omega, by dsimp only; omega, rfl, rfl⟩ ?_
    rintro ⟨last, i, l⟩ ⟨h1, h2, h3, h4, h5, h6⟩
    dsimp only at *
    have hl : l.length = i.toNat := by rw [h5, normK_len, List.length_take]; omega
    refine vc50_l0 N _ _ _ _ _ _ ?_
    (simp only [vcS])
    (simp only [Tree.eta, Tree.kind_mk, Tree.words_mk, Tree.kids_mk])
    refine ⟨fun hc => ?_, fun hc => ⟨fun h1 => ⟨?_, by omega, ?_⟩, fun hk => ⟨?_, ?_⟩⟩⟩
    · have hm := massK_get (ks := ks) (i := i.toNat) (by omega)
      have hnx : normK (ks.take (i + 1).toNat) = l ++ [normT (ks.getD i.toNat Tree.nil)] := by rw [takeT_next h1 hc, normK_app, h5]
      refine ⟨by omega, by simp only [pre50]; omega, by simp only [mu50]; omega, by simp only [List.length_cons, List.length_nil]; omega, fun hk => ⟨by unfold InR; omega, by unfold InR; omega, (i + 1, i + 1, _), rfl, ⟨by dsimp only; omega, by dsimp only; omega, by dsimp only; omega, by dsimp only; omega, hnx.symm, ?_⟩, by dsimp only; omega⟩, fun hk => ⟨by unfold InR; omega, (last, i + 1, _), rfl, ⟨by dsimp only; omega, by dsimp only; omega, by dsimp only; omega, by dsimp only; omega, hnx.symm, ?_⟩, by dsimp only; omega⟩⟩
      · dsimp only
        rw [hnx, trimK_ne hk, List.take_of_length_le (by simp; omega)]
      · dsimp only
        rw [hnx, trimK_zero hk, List.take_append_of_le_length (by omega), ← h6, h5]
    · simp only [pre80]; omega
    · have hi : ks.take i.toNat = ks := List.take_of_length_le (by omega)
      rw [hi] at h5 h6
      have e : normT (.mk k ws ks) = .mk 1 (trim ws) (l.take last.toNat) := by
        subst h1
        simp only [normT, ← h6]
        rfl
      simp only [res50, e]
      exact ⟨⟨rfl, ⟨⟨rfl, rfl⟩, ⟨rfl, trivial⟩, ⟨rfl, trivial⟩, trivial⟩, trivial⟩, trivial⟩
    · simp only [List.length_nil]; omega
    · have hi : ks.take i.toNat = ks := List.take_of_length_le (by omega)
      rw [hi] at h5
      have e : normT (.mk k ws ks) = .mk k ([] ++ ws) l := by
        simp only [normT, if_neg hc0, if_neg hk, h5]
        rfl
      simp only [res50, e]
      exact ⟨⟨rfl, ⟨⟨rfl, rfl⟩, ⟨rfl, trivial⟩, ⟨rfl, trivial⟩, trivial⟩, trivial⟩, trivial⟩
mutual
theorem weight_range : ∀ (t : Tree), 0 ≤ weight t ∧ weight t + 1 ≤ 2 * (mass t : Int)
  | .mk k w ks => by
    have h1 := weightK_range ks
    have h2 := massK_len ks
    simp only [weight, mass]
    split
    · omega
    · split
      · omega
      · split <;> omega
theorem weightK_range : ∀ (ks : List Tree), 0 ≤ weightK ks ∧ weightK ks + ks.length ≤ 2 * (massK ks : Int)
  | [] => by simp [weightK, massK]
  | t :: r => by
    have h1 := weight_range t
    have h2 := weightK_range r
    simp only [weightK, massK, List.length_cons]
    omega
end
theorem weightK_drop {ks : List Tree} {i : Int} (h0 : 0 ≤ i) (h : i < ks.length) : weightK (ks.drop i.toNat) = weight (ks.getD i.toNat Tree.nil) + weightK (ks.drop (i + 1).toNat) := by
  have e : (i + 1).toNat = i.toNat + 1 := by omega
  rw [List.drop_eq_getElem_cons (by omega), e]
  simp only [weightK, List.getD, List.getElem?_eq_getElem (show i.toNat < ks.length by omega), Option.getD_some]
theorem last_eq {l : List Int} (h0 : 0 < (l.length : Int)) : l = l.take ((l.length : Int) - 1).toNat ++ [l.getD ((l.length : Int) - 1).toNat 0] := by
  have := take_last h0 (Int.le_refl _)
  rw [List.take_of_length_le (by omega)] at this
  exact this
theorem lastT_eq {l : List Tree} (h0 : 0 < (l.length : Int)) : l = l.take ((l.length : Int) - 1).toNat ++ [l.getD ((l.length : Int) - 1).toNat Tree.nil] := by
  have := takeT_next (l := l) (i := (l.length : Int) - 1) (by omega) (by omega)
  rw [List.take_of_length_le (by omega)] at this
  exact this
theorem trim_step {l : List Int} (h0 : 0 < (l.length : Int)) (hz : l.getD ((l.length : Int) - 1).toNat 0 = 0) : trim (l.take ((l.length : Int) - 1).toNat) = trim l := by
  have e := trim_zero (l.take ((l.length : Int) - 1).toNat)
  have h := last_eq h0
  rw [hz] at h
  rw [← h] at e
  exact e.symm
theorem trim_done {l : List Int} (h : ¬ 0 < (l.length : Int) ∨ ¬ l.getD ((l.length : Int) - 1).toNat 0 = 0) : trim l = l := by
  by_cases h0 : 0 < (l.length : Int)
  · have e := trim_ne (x := l.getD ((l.length : Int) - 1).toNat 0) (by rcases h with h | h; exact absurd h0 h; exact h) (l.take ((l.length : Int) - 1).toNat)
    rw [← last_eq h0] at e
    exact e
  · have : l = [] := List.eq_nil_of_length_eq_zero (by omega)
    subst this
    rfl
theorem trimK_step {l : List Tree} (h0 : 0 < (l.length : Int)) (hz : (l.getD ((l.length : Int) - 1).toNat Tree.nil).kind = 0) : trimK (l.take ((l.length : Int) - 1).toNat) = trimK l := by
  have e := trimK_zero hz (l.take ((l.length : Int) - 1).toNat)
  rw [← lastT_eq h0] at e
  exact e.symm
theorem trimK_done {l : List Tree} (h : ¬ 0 < (l.length : Int) ∨ ¬ (l.getD ((l.length : Int) - 1).toNat Tree.nil).kind = 0) : trimK l = l := by
  by_cases h0 : 0 < (l.length : Int)
  · have e := trimK_ne (x := l.getD ((l.length : Int) - 1).toNat Tree.nil) (by rcases h with h | h; exact absurd h0 h; exact h) (l.take ((l.length : Int) - 1).toNat)
    rw [← lastT_eq h0] at e
    exact e
  · have : l = [] := List.eq_nil_of_length_eq_zero (by omega)
    subst this
    rfl
theorem c72 : Contract Try.prog cfg 72 spec72 := by
  refine make72 c60 ?_
  rintro N ⟨k, ws, ks⟩ _ hp hN
  have hlen := massK_len ks
  simp only [pre72, mu72, mass] at hp hN
  refine vc72 N _ _ ?_
  (simp only [vcS])
  (simp only [Tree.eta, Tree.kind_mk, Tree.words_mk, Tree.kids_mk])
  refine ⟨fun hc => ?_, fun hc0 => ⟨by simp only [pre60]; omega, ?_⟩⟩
  · have e : normT (.mk k ws ks) = Tree.nil := by simp [normT, hc]
    simp only [res72, e]
    exact ⟨⟨rfl, ⟨⟨rfl, rfl⟩, ⟨rfl, ⟨rfl, trivial⟩⟩⟩, trivial⟩, trivial⟩
  · refine loop_rule (ι := Int × List Tree) (fun p => head72_0 (.mk k ws ks) p.1 p.2) (fun p => 0 ≤ p.1 ∧ p.1 ≤ ks.length ∧ p.2 = normK (ks.take p.1.toNat)) (fun p => ((ks.length : Int) - p.1).toNat) (0, []) rfl ⟨by dsimp only; omega, by dsimp only; omega, rfl⟩ ?_
    rintro ⟨i, l⟩ ⟨h1, h2, h5⟩
    dsimp only at *
    have hl : l.length = i.toNat := by rw [h5, normK_len, List.length_take]; omega
    refine vc72_l0 N _ _ _ _ _ ?_
    (simp only [vcS])
    (simp only [Tree.eta, Tree.kind_mk, Tree.words_mk, Tree.kids_mk])
    refine ⟨fun hc => ?_, fun hc => ⟨fun hk => ?_, fun hk => ?_⟩⟩
    · have hm := massK_get (ks := ks) (i := i.toNat) (by omega)
      have hnx : normK (ks.take (i + 1).toNat) = l ++ [normT (ks.getD i.toNat Tree.nil)] := by rw [takeT_next h1 hc, normK_app, h5]
      exact ⟨by omega, by simp only [pre72]; omega, by simp only [mu72]; omega, by simp only [List.length_cons, List.length_nil]; omega, by unfold InR; omega, (i + 1, _), rfl, ⟨by dsimp only; omega, by dsimp only; omega, hnx.symm⟩, by dsimp only; omega⟩
    · have hi : ks.take i.toNat = ks := List.take_of_length_le (by omega)
      rw [hi] at h5
      refine loop_rule (ι := List Int) (fun p => head72_1 (.mk k ws ks) l p) (fun p => p.length ≤ ws.length ∧ trim p = trim ws) (fun p => p.length) ws rfl ⟨by omega, rfl⟩ ?_
      rintro w ⟨h6, h7⟩
      refine vc72_l1 N _ _ _ _ _ ?_
      (simp only [vcS])
      refine ⟨id, id, id, id, fun h => by unfold InR; omega, id, id, fun h => by omega, id, id, id, fun hc => ⟨by unfold InR; omega, by omega, _, rfl, ⟨by rw [List.length_take]; omega, ?_⟩, by rw [List.length_take]; omega⟩, fun hc => ?_⟩
      · rw [trim_step hc.1 hc.2, h7]
      · have hw : w = trim ws := by rw [← h7, trim_done hc]
        refine loop_rule (ι := List Tree) (fun p => head72_2 (.mk k ws ks) w p) (fun p => p.length ≤ l.length ∧ trimK p = trimK l) (fun p => p.length) l rfl ⟨by omega, rfl⟩ ?_
        rintro q ⟨h8, h9⟩
        refine vc72_l2 N _ _ _ _ _ ?_
        (simp only [vcS])
        refine ⟨id, id, id, id, fun h => by unfold InR; omega, id, id, fun h => by omega, id, id, id, id, fun hc => ⟨by unfold InR; omega, by omega, _, rfl, ⟨by rw [List.length_take]; omega, ?_⟩, by rw [List.length_take]; omega⟩, fun hc => ?_⟩
        · rw [trimK_step hc.1 hc.2, h9]
        · have hq : q = trimK (normK ks) := by rw [← h5, ← h9, trimK_done hc]
          have e : normT (.mk k ws ks) = .mk k w q := by
            subst hk
            simp only [normT, hw, hq]
            rfl
          simp only [res72, e]
          exact ⟨⟨rfl, ⟨⟨rfl, rfl⟩, ⟨rfl, trivial⟩, ⟨rfl, trivial⟩, trivial⟩, trivial⟩, trivial⟩
    · have hi : ks.take i.toNat = ks := List.take_of_length_le (by omega)
      rw [hi] at h5
      have e : normT (.mk k ws ks) = .mk k ws l := by simp only [normT, if_neg hc0, if_neg hk, h5]
      simp only [res72, e]
      exact ⟨⟨rfl, ⟨⟨rfl, rfl⟩, ⟨rfl, trivial⟩, ⟨rfl, trivial⟩, trivial⟩, trivial⟩, trivial⟩
end Go.AM.Ythokdjgpdonhgaa

namespace Go.AM.Ythokdjgpdonhgaa
open Go.AM
mutual
def depthT : Tree → Int
  | .mk k _ ks => if k = 0 ∨ k = 10 then 0 else depthK ks 1
def depthK : List Tree → Int → Int
  | [], n => n
  | t :: r, n => depthK r (if n < depthT t + 1 then depthT t + 1 else n)
end
mutual
theorem depthT_le : ∀ (t : Tree) (d : Int), 0 ≤ d → rightT t d = true → 0 ≤ depthT t ∧ depthT t ≤ d
  | .mk k w ks, d, h0, h => by
    rw [depthT]
    split
    · omega
    · rename_i hk
      rw [rightT, if_neg (fun e => hk (.inl e)), if_neg (fun e => hk (.inr e))] at h
      split at h
      · cases h
      · rename_i hd
        have hr : ∃ i, rightK i ks (d - 1) = true := by
          split at h
          · exact ⟨1, (Bool.and_eq_true _ _ ▸ h).2⟩
          · exact ⟨k, (Bool.and_eq_true _ _ ▸ h).2⟩
        obtain ⟨i, hr⟩ := hr
        have := depthK_le i ks d 1 (by omega) (by omega) (by omega) hr
        omega
theorem depthK_le (i : Int) : ∀ (ks : List Tree) (d n : Int), 1 ≤ d → 0 ≤ n → n ≤ d → rightK i ks (d - 1) = true → n ≤ depthK ks n ∧ depthK ks n ≤ d
  | [], d, n, h0, h1, h2, h => by rw [depthK]; omega
  | t :: r, d, n, h0, h1, h2, h => by
    rw [rightK] at h
    have h' := (Bool.and_eq_true _ _ ▸ h)
    have h3 := (Bool.and_eq_true _ _ ▸ h'.1)
    have h4 := depthT_le t (d - 1) (by omega) h3.2
    rw [depthK]
    have := depthK_le i r d (if n < depthT t + 1 then depthT t + 1 else n) h0 (by split <;> omega) (by split <;> omega) h'.2
    split at this <;> split <;> omega
end
mutual
theorem rightT_mono : ∀ (t : Tree) (d e : Int), 0 ≤ d → d ≤ e → rightT t d = true → rightT t e = true
  | .mk k w ks, d, e, h0, h1, h => by
    rw [rightT] at h ⊢
    split
    · rename_i h2; rw [if_pos h2] at h; exact h
    · rename_i h2; rw [if_neg h2] at h
      split
      · rename_i h3; rw [if_pos h3] at h; exact h
      · rename_i h3; rw [if_neg h3] at h
        by_cases hd : d = 0
        · rw [if_pos hd] at h; cases h
        · rw [if_neg hd] at h; rw [if_neg (show ¬ e = 0 by omega)]
          split
          · rename_i h4; rw [if_pos h4] at h
            have h' := (Bool.and_eq_true _ _ ▸ h)
            exact (Bool.and_eq_true _ _).symm ▸ ⟨h'.1, rightK_mono 1 ks (d - 1) (e - 1) (by omega) (by omega) h'.2⟩
          · rename_i h4; rw [if_neg h4] at h
            have h' := (Bool.and_eq_true _ _ ▸ h)
            exact (Bool.and_eq_true _ _).symm ▸ ⟨h'.1, rightK_mono k ks (d - 1) (e - 1) (by omega) (by omega) h'.2⟩
theorem rightK_mono (i : Int) : ∀ (ks : List Tree) (d e : Int), 0 ≤ d → d ≤ e → rightK i ks d = true → rightK i ks e = true
  | [], _, _, _, _, _ => by rw [rightK]
  | t :: r, d, e, h0, h1, h => by
    rw [rightK] at h ⊢
    have h' := (Bool.and_eq_true _ _ ▸ h)
    have h3 := (Bool.and_eq_true _ _ ▸ h'.1)
    exact (Bool.and_eq_true _ _).symm ▸ ⟨(Bool.and_eq_true _ _).symm ▸ ⟨h3.1, rightT_mono t d e h0 h1 h3.2⟩, rightK_mono i r d e h0 h1 h'.2⟩
end
mutual
theorem mass_weight : ∀ (t : Tree) (d : Int), rightT t d = true → (mass t : Int) ≤ 2 * weight t + (if t.kind = 0 then 1 else 0)
  | .mk k w ks, d, h => by
    rw [rightT] at h
    show (mass (.mk k w ks) : Int) ≤ _ + (if k = 0 then 1 else 0)
    rw [mass, weight]
    split at h
    · rename_i hk
      have := of_decide_eq_true h
      rw [if_pos hk, if_pos hk, this.1, List.length_eq_zero_iff.1 this.2, massK]
      omega
    · rename_i hk
      rw [if_neg hk, if_neg hk]
      split at h
      · rename_i hk
        have := of_decide_eq_true h
        rw [if_neg (by omega), if_neg (by omega), this.1, List.length_eq_zero_iff.1 this.2, massK, weightK]
        omega
      · split at h
        · cases h
        · split at h
          · rename_i h1
            have h' := (Bool.and_eq_true _ _ ▸ h)
            have := massK_weight 1 ks (d - 1) h'.2
            rw [if_pos h1]
            rw [if_neg (by omega)] at this
            omega
          · rename_i h1
            have h' := (Bool.and_eq_true _ _ ▸ h)
            have := massK_weight k ks (d - 1) h'.2
            have hw := of_decide_eq_true h'.1
            rw [if_neg h1]
            split
            · rename_i h8
              rw [if_neg (by omega)] at this
              omega
            · rename_i h8
              rw [if_pos (by omega)] at this
              omega
theorem massK_weight (i : Int) : ∀ (ks : List Tree) (d : Int), rightK i ks d = true → (massK ks : Int) ≤ 2 * weightK ks + (if 2 ≤ i ∧ i ≤ 7 ∨ i = 9 then 0 else (ks.length : Int))
  | [], _, _ => by rw [massK, weightK]; split <;> simp
  | t :: r, d, h => by
    rw [rightK] at h
    have h' := (Bool.and_eq_true _ _ ▸ h)
    have h3 := (Bool.and_eq_true _ _ ▸ h'.1)
    have h4 := mass_weight t d h3.2
    have h5 := massK_weight i r d h'.2
    rw [massK, weightK, List.length_cons]
    split
    · rename_i hi
      rw [if_pos hi] at h5
      have hk : t.kind ≠ 0 := by
        intro e
        have := h3.1
        unfold kidB at this
        split at this
        · have := (of_decide_eq_true (Bool.and_eq_true _ _ ▸ this).1); omega
        · rw [if_pos (by omega)] at this
          have := of_decide_eq_true this; omega
      rw [if_neg hk] at h4
      omega
    · rename_i hi
      rw [if_neg hi] at h5
      split at h4 <;> omega
end
theorem wordsX_rng {l : List (List Int)} (hl : okSeg l) {x : XRef} (hx : OkX l x) : (∀ y ∈ wordsX l x, 0 ≤ y ∧ y < 18446744073709551616) ∧ ((wordsX l x).length : Int) = (if x.kind = 10 then 1 else if x.kind = 1 then x.data else 0) := by
  unfold wordsX
  split
  · refine ⟨fun y hy => ?_, rfl⟩
    rw [List.mem_singleton.1 hy]; exact hx.n
  · split
    · rename_i h1
      refine ⟨fun y hy => (okSeg_at hl x.s).2 y (List.mem_of_mem_drop (List.mem_of_mem_take hy)), ?_⟩
      have := hasN_iff.1 (hx.one h1)
      have := hx.data
      have := hx.ptrs
      have := hx.at_
      rw [List.length_take, List.length_drop]
      omega
    · exact ⟨fun y hy => (by cases hy), rfl⟩
theorem getW_fits {l : List Int} (h : ∀ x ∈ l, 0 ≤ x ∧ x < 18446744073709551616) (c i : Int) (hc : 0 ≤ c ∧ c ≤ 5) : fits c (getW l c i) = true := by
  have hw : 0 ≤ wd c := by
    unfold wd; repeat' split
    all_goals omega
  refine decide_eq_true ⟨hw, ?_⟩
  unfold getW
  split
  · exact Int.pow_pos (by decide)
  · exact Int.emod_lt_of_pos _ (Int.pow_pos (by decide))
theorem loopM_all {f : Int → Int → Tree × Int × Int} {P : Tree → Prop} {N c : Int}
    (hf : ∀ i left, 0 ≤ i → i < N → 0 ≤ left → left ≤ 65536 → (f i left).2.2 = 0 → P (f i left).1 ∧ 0 ≤ (f i left).2.1 ∧ (f i left).2.1 ≤ left ∧ weight (f i left).1 = left - (f i left).2.1 + c) :
    ∀ (n : Nat) (i left : Int) (acc : List Tree), 0 ≤ i → i + n ≤ N → 0 ≤ left → left ≤ 65536 → (loopM f n i left acc).2.2 = 0 →
      ∃ ks, (loopM f n i left acc).1 = acc ++ ks ∧ ks.length = n ∧ (∀ k ∈ ks, P k) ∧ 0 ≤ (loopM f n i left acc).2.1 ∧ (loopM f n i left acc).2.1 ≤ left ∧ weightK ks = left - (loopM f n i left acc).2.1 + n * c
  | 0, i, left, acc, _, _, h0, _, _ => ⟨[], by simp [loopM, weightK]; exact h0⟩
  | n + 1, i, left, acc, hi, hn, h0, h9, he => by
    simp only [loopM] at he ⊢
    by_cases h1 : (f i left).2.2 = 0
    · rw [if_pos h1] at he ⊢
      obtain ⟨p1, p2, p4, p3⟩ := hf i left hi (by omega) h0 h9 h1
      obtain ⟨ks, q1, q2, q3, q4, q6, q5⟩ := loopM_all hf n (i + 1) (f i left).2.1 (acc ++ [(f i left).1]) (by omega) (by omega) p2 (by omega) he
      refine ⟨(f i left).1 :: ks, by rw [q1]; simp, by simp [q2], ?_, q4, by omega, ?_⟩
      · intro k hk
        rcases List.mem_cons.1 hk with rfl | hk
        · exact p1
        · exact q3 k hk
      · rw [weightK, q5, p3]
        rw [Int.natCast_add, Int.add_mul]
        omega
    · rw [if_neg h1] at he
      exact absurd he h1
theorem rightK_of {i : Int} {d : Int} : ∀ {ks : List Tree}, (∀ k ∈ ks, kidB i k = true ∧ rightT k d = true) → rightK i ks d = true
  | [], _ => by rw [rightK]
  | t :: r, h => by
    rw [rightK, (h t (List.mem_cons_self ..)).1, (h t (List.mem_cons_self ..)).2, rightK_of (ks := r) fun k hk => h k (List.mem_cons_of_mem _ hk)]
    rfl
theorem rngK_of : ∀ {ks : List Tree}, (∀ k ∈ ks, rng k) → rngK ks
  | [], _ => trivial
  | t :: r, h => ⟨h t (List.mem_cons_self ..), rngK_of (ks := r) fun k hk => h k (List.mem_cons_of_mem _ hk)⟩
def GoodM (l : List (List Int)) (m : XRef → Int → Tree × Int × Int) (d : Int) : Prop :=
  ∀ x left, OkX l x → 0 ≤ left → left ≤ 65536 → (m x left).2.2 = 0 →
    (m x left).1.kind = x.kind ∧ rightT (m x left).1 d = true ∧ rng (m x left).1 ∧ 0 ≤ (m x left).2.1 ∧ weight (m x left).1 = left - (m x left).2.1
theorem kidX_kind {l : List (List Int)} (hl : okSeg l) (s a : Int) : (refAt l s a).1.kind ≠ 10 := by
  have hp := (okL_follow hl s a).p
  have hk := (okL_follow hl s a).kind
  have hc := hp.code
  unfold refAt
  split
  · simp [xz]
  · split
    · simp
    · split
      · show 2 + _ ≠ _; omega
      · unfold compX
        split <;> simp [xz]
theorem kidB_at {l : List (List Int)} (hl : okSeg l) {x : XRef} {i k : Int} (hk : x.kind = 1 ∨ x.kind = 8) (h1 : ¬(2 ≤ k ∧ k ≤ 7)) (h9 : k ≠ 9) {t : Tree} (ht : t.kind = (kidX l x i).1.kind) : kidB k t = true := by
  unfold kidB
  rw [if_neg h1, if_neg h9]
  refine decide_eq_true ?_
  rw [ht]
  unfold kidX
  split
  · simp [xz]
  · rcases hk with e | e
    · rw [if_pos e]; exact kidX_kind hl _ _
    · rw [if_neg (by omega), if_pos e]; exact kidX_kind hl _ _
theorem kidsM_good {l : List (List Int)} (hl : okSeg l) {m : XRef → Int → Tree × Int × Int} {d : Int} (hd : 0 ≤ d) (hm : GoodM l m d) {x : XRef} (hx : OkX l x) (h1 : x.kind = 1) (left : Int) (h0 : 0 ≤ left) (h9 : left ≤ 65536) (he : (kidsM l m x left).2.2 = 0) :
    (kidsM l m x left).1.kind = 1 ∧ rightT (kidsM l m x left).1 (d + 1) = true ∧ rng (kidsM l m x left).1 ∧ 0 ≤ (kidsM l m x left).2.1 ∧ (kidsM l m x left).2.1 ≤ left ∧ weight (kidsM l m x left).1 = left - (kidsM l m x left).2.1 + (1 + x.data + x.ptrs) := by
  have hw := wordsX_rng hl hx
  rw [if_neg (by omega), if_pos h1] at hw
  have hdt := hx.data
  have hpt := hx.ptrs
  unfold kidsM at he ⊢
  obtain ⟨ks, q1, q2, q3, q4, q6, q5⟩ := loopM_all (P := fun k => (kidB 1 k = true ∧ rightT k d = true) ∧ rng k) (N := x.ptrs) (c := 0) (f := fun j left => if (kidX l x j).2 = 0 then m (kidX l x j).1 left else (Tree.nil, left, (kidX l x j).2)) (by
    intro i left hi hn h0 h9 he
    by_cases h2 : (kidX l x i).2 = 0
    · simp only [h2, if_true] at he ⊢
      obtain ⟨g1, g2, g3, g4, g5⟩ := hm _ _ (okX_kid hl hx i) h0 h9 he
      have := (weight_range (m (kidX l x i).1 left).1).1
      exact ⟨⟨⟨kidB_at hl (.inl h1) (by omega) (by omega) g1, g2⟩, g3⟩, g4, by omega, by rw [g5, Int.add_zero]⟩
    · simp only [h2, if_false] at he) x.ptrs.toNat 0 left [] (by omega) (by omega) h0 h9 he
  dsimp only at q1 q4 q5 q6 ⊢
  rw [q1, List.nil_append]
  refine ⟨rfl, ?_, ?_, q4, q6, ?_⟩
  · rw [rightT, if_neg (by omega), if_neg (by omega), if_neg (by omega), if_pos rfl, show d + 1 - 1 = d by omega, rightK_of fun k hk => (q3 k hk).1]
    refine (Bool.and_eq_true _ _).symm ▸ ⟨decide_eq_true ⟨by omega, by omega⟩, rfl⟩
  · exact ⟨⟨by omega, by omega⟩, hw.1, rngK_of fun k hk => (q3 k hk).2⟩
  · rw [weight, if_neg (by omega), if_pos rfl, q5]
    omega
theorem stepM_good {l : List (List Int)} (hl : okSeg l) {d : Nat} {m m' : XRef → Int → Tree × Int × Int} (hm : 1 ≤ d → GoodM l m ((d : Int) - 1)) (hm' : 2 ≤ d → GoodM l m' ((d : Int) - 2)) : GoodM l (stepM l d m m') d := by
  intro x left hx h0 h9 he
  have hw := wordsX_rng hl hx
  have hdt := hx.data
  have hpt := hx.ptrs
  have hk := hx.kind
  have hc := hx.count
  unfold stepM at he ⊢
  by_cases hk0 : x.kind = 0
  · rw [if_neg (by omega), if_neg (by omega)] at hw
    have e : wordsX l x = [] := List.length_eq_zero_iff.1 (by omega)
    rw [if_pos hk0, e]
    refine ⟨hk0.symm, ?_, ?_, h0, ?_⟩
    · rw [rightT, if_pos rfl]; rfl
    · exact ⟨⟨by omega, by omega⟩, fun y hy => (by cases hy), trivial⟩
    · show weight ⟨0, [], []⟩ = left - left
      rw [weight, if_pos rfl]; omega
  · rw [if_neg hk0] at he ⊢
    by_cases hq : d = 0 ∨ (x.kind = 9 ∧ 0 < x.count ∧ d < 2) ∨ left < ownX x
    · rw [if_pos hq] at he; cases he
    · rw [if_neg hq] at he ⊢
      have hown := ownX_pos hx
      have hkx := kidsX_le hx
      -- the kids
      have key : ∃ c : Int, ownX x = 1 + (if x.kind = 1 then x.data + kidsX x else if x.kind = 8 then kidsX x else 0) + kidsX x * c ∧
          ∀ i left, 0 ≤ i → i < kidsX x → 0 ≤ left → left ≤ 65536 → (kidM l m m' x i left).2.2 = 0 →
            ((kidB x.kind (kidM l m m' x i left).1 = true ∧ rightT (kidM l m m' x i left).1 ((d : Int) - 1) = true) ∧ rng (kidM l m m' x i left).1) ∧ 0 ≤ (kidM l m m' x i left).2.1 ∧ (kidM l m m' x i left).2.1 ≤ left ∧
            weight (kidM l m m' x i left).1 = left - (kidM l m m' x i left).2.1 + c := by
        by_cases h18 : x.kind = 1 ∨ x.kind = 8
        · refine ⟨0, ?_, ?_⟩
          · unfold ownX kidsX
            rcases h18 with e | e
            · rw [if_pos e, if_pos e, if_pos e]; omega
            · rw [if_neg (by omega), if_neg (by omega), if_neg (by omega), if_pos e, if_neg (by omega)]; omega
          · intro i left hi hn h0 h9 he
            unfold kidM at he ⊢
            by_cases h2 : (kidX l x i).2 = 0
            · rw [if_pos h2, if_neg (by omega), if_pos h18] at he ⊢
              obtain ⟨g1, g2, g3, g4, g5⟩ := hm (by omega) _ _ (okX_kid hl hx i) h0 h9 he
              have := (weight_range (m (kidX l x i).1 left).1).1
              exact ⟨⟨⟨kidB_at hl h18 (by omega) (by omega) g1, g2⟩, g3⟩, g4, by omega, by rw [g5, Int.add_zero]⟩
            · rw [if_neg h2] at he; exact absurd he h2
        · by_cases h99 : x.kind = 9
          · refine ⟨1 + x.data + x.ptrs, ?_, ?_⟩
            · unfold ownX kidsX
              rw [if_neg (by omega), if_pos h99, if_neg (by omega), if_neg (by omega), if_neg (by omega)]; omega
            · intro i left hi hn h0 h9 he
              have e : kidsX x = x.count := by unfold kidsX; rw [if_neg (by omega)]
              have ek : kidX l x i = (⟨1, x.s, x.at_ + i * (x.data + x.ptrs), x.data, x.ptrs, 0, 0⟩, 0) := by
                unfold kidX; rw [if_neg (by omega), if_neg (by omega), if_neg (by omega), if_pos h99]
              have hkk := okX_kid hl hx i
              unfold kidM at he ⊢
              rw [ek] at he hkk ⊢
              rw [if_pos rfl, if_pos h99] at he ⊢
              obtain ⟨g1, g2, g3, g4, g6, g5⟩ := kidsM_good hl (d := (d : Int) - 2) (by omega) (hm' (by omega)) hkk rfl left h0 h9 he
              refine ⟨⟨⟨?_, by rw [show (d : Int) - 1 = d - 2 + 1 by omega]; exact g2⟩, g3⟩, g4, g6, g5⟩
              unfold kidB
              rw [if_neg (by omega), if_pos h99]
              exact decide_eq_true g1
          · refine ⟨1, ?_, ?_⟩
            · unfold ownX kidsX
              rw [if_neg (by omega), if_neg h99, if_neg (by omega), if_neg (by omega), if_neg (by omega)]; omega
            · intro i left hi hn h0 h9 he
              have e : kidsX x = x.count := by unfold kidsX; rw [if_neg (by omega)]
              have hz := hx.zero
              have ek : kidX l x i = (⟨10, 0, 0, 0, 0, 0, getW ((segAt l x.s).drop x.at_.toNat) (x.kind - 2) i⟩, 0) := by
                unfold kidX; rw [if_neg (by omega), if_neg (by omega), if_neg (by omega), if_neg (by omega)]
              have hkk := okX_kid hl hx i
              rw [ek] at hkk
              have em : kidM l m m' x i left = (⟨10, [getW ((segAt l x.s).drop x.at_.toNat) (x.kind - 2) i], []⟩, left, 0) := by
                unfold kidM
                rw [ek, if_pos rfl, if_neg h99, if_neg h18]
                rfl
              rw [em]
              refine ⟨⟨⟨?_, ?_⟩, ⟨by omega, by omega⟩, ?_, trivial⟩, h0, Int.le_refl _, ?_⟩
              · unfold kidB
                rw [if_pos (by omega)]
                refine (Bool.and_eq_true _ _).symm ▸ ⟨decide_eq_true ⟨rfl, rfl, rfl⟩, ?_⟩
                exact getW_fits (fun y hy => (okSeg_at hl x.s).2 y (List.mem_of_mem_drop hy)) _ _ (by omega)
              · rw [rightT, if_neg (by omega), if_pos rfl]; rfl
              · exact (wordsX_rng hl hkk).1
              · show weight ⟨10, _, []⟩ = left - left + 1
                rw [weight, if_neg (by omega), if_neg (by omega), if_neg (by omega), weightK]; omega
      obtain ⟨c, hc1, hc2⟩ := key
      obtain ⟨ks, q1, q2, q3, q4, q6, q5⟩ := loopM_all (P := fun k => (kidB x.kind k = true ∧ rightT k ((d : Int) - 1) = true) ∧ rng k) (N := kidsX x) hc2 (kidsX x).toNat 0 (left - ownX x) [] (by omega) (by omega) (by omega) (by omega) he
      dsimp only
      rw [q1, List.nil_append]
      rw [Int.toNat_of_nonneg hkx.1] at q5
      have q2' : (ks.length : Int) = kidsX x := by rw [q2, Int.toNat_of_nonneg hkx.1]
      refine ⟨rfl, ?_, ⟨⟨by omega, by omega⟩, hw.1, rngK_of fun k hk => (q3 k hk).2⟩, q4, ?_⟩
      · rw [rightT, if_neg hk0]
        split
        · rename_i h10
          rw [if_pos h10] at hw
          have := hx.zero (.inr h10)
          have e : kidsX x = 0 := by unfold kidsX; rw [if_neg (by omega)]; exact this
          exact decide_eq_true ⟨by omega, by omega⟩
        · rename_i h10
          rw [if_neg h10] at hw
          rw [if_neg (by omega)]
          have hr := rightK_of fun k hk => (q3 k hk).1
          split
          · rename_i h1
            rw [if_pos h1] at hw
            rw [h1] at hr
            rw [hr]
            have e : kidsX x = x.ptrs := by unfold kidsX; rw [if_pos h1]
            exact (Bool.and_eq_true _ _).symm ▸ ⟨decide_eq_true ⟨by omega, by omega⟩, rfl⟩
          · rename_i h1
            rw [if_neg h1] at hw
            rw [hr]
            exact (Bool.and_eq_true _ _).symm ▸ ⟨decide_eq_true ⟨by omega, by omega, by omega, by omega⟩, rfl⟩
      · rw [weight, if_neg hk0, q5, q2', hc1]
        split
        · rename_i h1
          rw [if_neg (by omega), if_pos h1] at hw
          omega
        · omega
theorem mean_good {l : List (List Int)} (hl : okSeg l) : ∀ d : Nat, GoodM l (mean l d) d := by
  intro d
  induction d using Nat.strongRecOn with
  | ind d ih =>
    match d with
    | 0 => exact stepM_good hl (fun h => absurd h (by decide)) (fun h => absurd h (by decide))
    | 1 => exact stepM_good hl (fun _ => ih 0 (by omega)) (fun h => absurd h (by decide))
    | d + 2 =>
      refine stepM_good hl (fun _ => ?_) (fun _ => ?_)
      · have := ih (d + 1) (by omega)
        rw [show ((d + 2 : Nat) : Int) - 1 = ((d + 1 : Nat) : Int) by omega]
        exact this
      · have := ih d (by omega)
        rw [show ((d + 2 : Nat) : Int) - 2 = ((d : Nat) : Int) by omega]
        exact this
end Go.AM.Ythokdjgpdonhgaa

namespace Go.AM.Ythokdjgpdonhgaa
open Go.AM Go.Proofs
def frW : List Tree → Nat
  | [] => 0
  | t :: r => max t.words.length (frW r)
def frK : List Tree → Nat
  | [] => 0
  | t :: r => max t.kids.length (frK r)
mutual
def sizeN : Tree → Nat
  | .mk k w ks =>
    if k = 1 then w.length + ks.length + sizeK ks
    else if k = 8 then ks.length + sizeK ks
    else if k = 9 then 1 + ks.length * (frW ks + frK ks) + sizeR ks
    else if 2 ≤ k ∧ k ≤ 7 then (roomW (k - 2) ks.length).toNat
    else sizeK ks
def sizeK : List Tree → Nat
  | [] => 0
  | t :: r => sizeN t + sizeK r
def sizeR : List Tree → Nat
  | [] => 0
  | .mk _ _ ks :: r => sizeK ks + sizeR r
end
def ptrP (a to kind up : Int) : Int := 4 * ((to - a - 1) % 1073741824) + kind + 4294967296 * up
def headP (a to : Int) : Tree → Int
  | .mk k w ks =>
    if k = 0 then 0
    else if k = 1 then ptrP a (if w.length + ks.length = 0 then a else to) 0 (w.length + 65536 * ks.length)
    else if k = 8 then ptrP a to 1 (6 + 8 * ks.length)
    else if k = 9 then ptrP a to 1 (7 + 8 * (ks.length * (frW ks + frK ks) : Nat))
    else ptrP a to 1 (k - 2 + 8 * ks.length)
def tagP (n fw fk : Nat) : Int := 4 * n + 4294967296 * (fw + 65536 * fk)
def numsP (ks : List Tree) : List Int := ks.map fun t => t.words.getD 0 0
mutual
def blkP : Tree → Int → List Int
  | .mk k w ks, to =>
    if k = 0 then []
    else if k = 1 then w ++ ((kidsP ks (to + w.length) (to + w.length + ks.length)).1 ++ (kidsP ks (to + w.length) (to + w.length + ks.length)).2)
    else if k = 8 then (kidsP ks to (to + ks.length)).1 ++ (kidsP ks to (to + ks.length)).2
    else if k = 9 then tagP ks.length (frW ks) (frK ks) :: ((rowsP (frW ks) (frK ks) ks (to + 1) (to + 1 + (ks.length * (frW ks + frK ks) : Nat))).1 ++ (rowsP (frW ks) (frK ks) ks (to + 1) (to + 1 + (ks.length * (frW ks + frK ks) : Nat))).2)
    else putR (k - 2) (numsP ks)
def kidsP : List Tree → Int → Int → List Int × List Int
  | [], _, _ => ([], [])
  | t :: r, a, to => (headP a to t :: (kidsP r (a + 1) (to + (blkP t to).length)).1, blkP t to ++ (kidsP r (a + 1) (to + (blkP t to).length)).2)
def rowsP (fw fk : Nat) : List Tree → Int → Int → List Int × List Int
  | [], _, _ => ([], [])
  | .mk _ w ks :: r, a, to =>
    (w ++ (List.replicate (fw - w.length) 0 ++ ((kidsP ks (a + fw) to).1 ++ (List.replicate (fk - ks.length) 0 ++ (rowsP fw fk r (a + (fw + fk)) (to + (kidsP ks (a + fw) to).2.length)).1))),
      (kidsP ks (a + fw) to).2 ++ (rowsP fw fk r (a + (fw + fk)) (to + (kidsP ks (a + fw) to).2.length)).2)
end
def layP (l : List Int) (a : Int) (t : Tree) : List Int := if t.kind = 0 then l else l.set a.toNat (headP a l.length t) ++ blkP t l.length
def encP (t : Tree) (most : Int) : List Int × Bool :=
  if rightT t 64 = true ∧ t.kind ≠ 10 then
    if (sizeN (normT t) : Int) < most ∧ sizeN (normT t) < 131072 then (layP [0] 0 (normT t), true) else ([], false)
  else ([], false)
end Go.AM.Ythokdjgpdonhgaa
