import Derived.Test.YthokdjgpdonhgaaBD07
import Derived.Test.YthokdjgpdonhgaaQBb
set_option linter.unusedSimpArgs false
set_option linter.unusedVariables false
namespace Go.AM.Ythokdjgpdonhgaa
open Go.AM Go.Proofs

def args70 : ArgL (Tree × Int × Int × Unit) := (.cons (aEl .tree) (.cons (aInt .i64) (.cons (aInt .i64) .nil)))
def pre70 (a : Tree × Int × Int × Unit) : Prop := small a.1 ∧ 0 ≤ a.2.1 ∧ a.2.1 ≤ 4611686018427387904 ∧ -1 ≤ a.2.2.1 ∧ a.2.2.1 ≤ 4611686018427387904
def mu70 (a : Tree × Int × Int × Unit) : Nat := mass a.1
noncomputable def res70 (a : Tree × Int × Int × Unit) : V U := .c (.int .i64 (shallow a.1 a.2.1 a.2.2.1))
noncomputable def spec70 : Fs U := fs args70 (fun a => [pre70 a]) res70

def args33 : ArgL (Tree × Unit) := (.cons (aEl .tree) .nil)
def pre33 (a : Tree × Unit) : Prop := small a.1
noncomputable def res33 (a : Tree × Unit) : V U := .c (.bool (decide (0 ≤ shallow a.1 80 3000)))
noncomputable def spec33 : Fs U := fs args33 (fun a => [pre33 a]) res33

def args80 : ArgL (List Int × Unit) := (.cons (aSl .u64) .nil)
def pre80 (a : List Int × Unit) : Prop := a.1.length ≤ 1000000000000
noncomputable def res80 (a : List Int × Unit) : V U := .c (.slice (U := U) .u64 (trim a.1) .unk)
noncomputable def spec80 : Fs U := fs args80 (fun a => [pre80 a]) res80

def args100 : ArgL (Tree × Int × Unit) := (.cons (aEl .tree) (.cons (aInt .i64) .nil))
def pre100 (a : Tree × Int × Unit) : Prop := True
noncomputable def res100 (a : Tree × Int × Unit) : V U := .c (.int .u64 (wordAt a.1 a.2.1))
noncomputable def spec100 : Fs U := fs args100 (fun a => [pre100 a]) res100

def args50 : ArgL (Tree × Unit) := (.cons (aEl .tree) .nil)
def pre50 (a : Tree × Unit) : Prop := mass a.1 ≤ 1000000000000
def mu50 (a : Tree × Unit) : Nat := mass a.1
noncomputable def res50 (a : Tree × Unit) : V U := .agg [.int .i64 (Tree.kind (normT a.1)), .slice (U := U) .u64 (Tree.words (normT a.1)) .unk, .slice (U := U) .tree (Tree.kids (normT a.1)) .unk]
noncomputable def spec50 : Fs U := fs args50 (fun a => [pre50 a]) res50

def args72 : ArgL (Tree × Unit) := (.cons (aEl .tree) .nil)
def pre72 (a : Tree × Unit) : Prop := mass a.1 ≤ 1000000000000
def mu72 (a : Tree × Unit) : Nat := mass a.1
noncomputable def res72 (a : Tree × Unit) : V U := .agg [.int .i64 (Tree.kind (normT a.1)), .slice (U := U) .u64 (Tree.words (normT a.1)) .unk, .slice (U := U) .tree (Tree.kids (normT a.1)) .unk]
noncomputable def spec72 : Fs U := fs args72 (fun a => [pre72 a]) res72

def args49 : ArgL (Tree × Tree × Unit) := (.cons (aEl .tree) (.cons (aEl .tree) .nil))
def pre49 (a : Tree × Tree × Unit) : Prop := mass a.1 ≤ 1000000000000
def mu49 (a : Tree × Tree × Unit) : Nat := mass a.1
noncomputable def res49 (a : Tree × Tree × Unit) : V U := .c (.bool (sameT a.1 a.2.1))
noncomputable def spec49 : Fs U := fs args49 (fun a => [pre49 a]) res49

def args38 : ArgL (Tree × Tree × Unit) := (.cons (aEl .tree) (.cons (aEl .tree) .nil))
def pre38 (a : Tree × Tree × Unit) : Prop := mass a.1 ≤ 1000000000000 ∧ mass a.2.1 ≤ 1000000000000
noncomputable def res38 (a : Tree × Tree × Unit) : V U := .c (.bool (sameT (normT a.1) (normT a.2.1)))
noncomputable def spec38 : Fs U := fs args38 (fun a => [pre38 a]) res38

noncomputable def know70 (N : Nat) : List (FuncId × Fs U) := (70, fs args70 (fun a => [pre70 a, mu70 a < N]) res70) :: []
def lv70 : Lives U := fun i => match i with
  | 0 => ([(1, []), (2, []), (3, [])], [((.loc 3), [])])
  | 1 => ([(1, []), (2, []), (3, [])], [((.loc 3), [])])
  | 2 => ([(1, []), (2, []), (3, []), (19, [])], [((.loc 3), [])])
  | 3 => ([(6, [])], [])
  | 4 => ([(1, []), (2, []), (3, []), (7, [])], [((.loc 3), [])])
  | 5 => ([(1, []), (2, []), (3, []), (7, []), (28, [])], [((.loc 3), [])])
  | 6 => ([(1, []), (2, []), (3, []), (7, [])], [((.loc 3), [])])
  | 7 => ([(1, []), (2, []), (3, []), (7, [])], [((.loc 3), [])])
  | 8 => ([(6, [])], [])
  | _ => ([], [])
def head70_0 (t : Tree) (d : Int) (l : Int) (x2 : Int) (x7 : Int) : LSt U := (⟨[(1, .c (.int .i64 d)), (2, .c (.int .i64 x2)), (3, .ptr (.loc 3) 0), (7, .c (.int .i64 x7))], [((.loc 3), [.int .i64 (Tree.kind t), .slice (U := U) .u64 (Tree.words t) .unk, .slice (U := U) .tree (Tree.kids t) .unk])], []⟩ : LSt U)
theorem vc70 (N : Nat) (t : Tree) (d : Int) (l : Int) (Q : AExit → LSt U → Prop) (h : ((InR ((l : Int) - 1)) ∧ (InR ((((l : Int) - 1) : Int) - ((Tree.words t).length : Int))) ∧ (((!((d : Int) == 0)) = true → (!((d : Int) == 0)) = true) ∧ ((((d : Int) == 0) = false → (!((d : Int) == 0)) = true)) ∧ (((bif ((d : Int) == 0) then true else (decide ((((((l : Int) - 1) : Int) - ((Tree.words t).length : Int)) : Int) < 0))) = true → (Q .ret (⟨[(6, .c (.int .i64 (-1)))], [], []⟩ : LSt U))) ∧ ((bif ((d : Int) == 0) then true else (decide ((((((l : Int) - 1) : Int) - ((Tree.words t).length : Int)) : Int) < 0))) = false → (LoopWp (awp cfg (know (know70 N)) (drawOk cfg (know (know70 N))) Try.f70.ntmps lv70 (cd Try.f70 [1, 1, 1, 0, 1, 0, 0])) (head70_0 t d l ((((l : Int) - 1) : Int) - ((Tree.words t).length : Int)) 0) (AExit.inBlock 0 (seqK cfg (know (know70 N)) (drawOk cfg (know (know70 N))) Try.f70.ntmps lv70 (cd Try.f70 [1, 1, 1, 1]) Q)))))))) :
    awp cfg (know (know70 N)) (drawOk cfg (know (know70 N))) Try.f70.ntmps lv70 (cd Try.f70 []) (⟨[(0, .agg [.int .i64 (Tree.kind t), .slice (U := U) .u64 (Tree.words t) .unk, .slice (U := U) .tree (Tree.kids t) .unk]), (1, .c (.int .i64 d)), (2, .c (.int .i64 l))], [], []⟩ : LSt U) Q := by
  have e : (awp cfg (know (know70 N)) (drawOk cfg (know (know70 N))) Try.f70.ntmps lv70 (cd Try.f70 []) (⟨[(0, .agg [.int .i64 (Tree.kind t), .slice (U := U) .u64 (Tree.words t) .unk, .slice (U := U) .tree (Tree.kids t) .unk]), (1, .c (.int .i64 d)), (2, .c (.int .i64 l))], [], []⟩ : LSt U) Q) = (((InR ((l : Int) - 1)) ∧ (InR ((((l : Int) - 1) : Int) - ((Tree.words t).length : Int))) ∧ (((!((d : Int) == 0)) = true → (!((d : Int) == 0)) = true) ∧ ((((d : Int) == 0) = false → (!((d : Int) == 0)) = true)) ∧ (((bif ((d : Int) == 0) then true else (decide ((((((l : Int) - 1) : Int) - ((Tree.words t).length : Int)) : Int) < 0))) = true → (Q .ret (⟨[(6, .c (.int .i64 (-1)))], [], []⟩ : LSt U))) ∧ ((bif ((d : Int) == 0) then true else (decide ((((((l : Int) - 1) : Int) - ((Tree.words t).length : Int)) : Int) < 0))) = false → (LoopWp (awp cfg (know (know70 N)) (drawOk cfg (know (know70 N))) Try.f70.ntmps lv70 (cd Try.f70 [1, 1, 1, 0, 1, 0, 0])) (head70_0 t d l ((((l : Int) - 1) : Int) - ((Tree.words t).length : Int)) 0) (AExit.inBlock 0 (seqK cfg (know (know70 N)) (drawOk cfg (know (know70 N))) Try.f70.ntmps lv70 (cd Try.f70 [1, 1, 1, 1]) Q)))))))) := by kernel_rfl
  exact e.mpr h
theorem vc70_l0 (N : Nat) (t : Tree) (d : Int) (l : Int) (x2 : Int) (x7 : Int) (N0 : LSt U → Prop) (Q : AExit → LSt U → Prop) (h : ((decide ((x7 : Int) < ((Tree.kids t).length : Int))) = true → (decide ((x7 : Int) < ((Tree.kids t).length : Int))) = true) ∧ (((decide ((x7 : Int) < ((Tree.kids t).length : Int))) = true → (decide ((x7 : Int) < ((Tree.kids t).length : Int))) = true)) ∧ (((bif (decide ((x7 : Int) < ((Tree.kids t).length : Int))) then (decide ((0 : Int) ≤ x2)) else false) = true → (0 ≤ x7 ∧ x7 < ((Tree.kids t).length : Int)) ∧ (InR ((d : Int) - 1)) ∧ (pre70 ((Tree.mk (Tree.kind (List.getD (Tree.kids t) (Int.toNat x7) Tree.nil)) (Tree.words (List.getD (Tree.kids t) (Int.toNat x7) Tree.nil)) (Tree.kids (List.getD (Tree.kids t) (Int.toNat x7) Tree.nil))), ((d : Int) - 1), x2, ())) ∧ (mu70 ((Tree.mk (Tree.kind (List.getD (Tree.kids t) (Int.toNat x7) Tree.nil)) (Tree.words (List.getD (Tree.kids t) (Int.toNat x7) Tree.nil)) (Tree.kids (List.getD (Tree.kids t) (Int.toNat x7) Tree.nil))), ((d : Int) - 1), x2, ()) < N) ∧ ((InR ((x7 : Int) + 1)) ∧ (N0 (head70_0 t d l (shallow (Tree.mk (Tree.kind (List.getD (Tree.kids t) (Int.toNat x7) Tree.nil)) (Tree.words (List.getD (Tree.kids t) (Int.toNat x7) Tree.nil)) (Tree.kids (List.getD (Tree.kids t) (Int.toNat x7) Tree.nil))) ((d : Int) - 1) x2) ((x7 : Int) + 1))))) ∧ ((bif (decide ((x7 : Int) < ((Tree.kids t).length : Int))) then (decide ((0 : Int) ≤ x2)) else false) = false → (Q .ret (⟨[(6, .c (.int .i64 x2))], [], []⟩ : LSt U))))) :
    awp cfg (know (know70 N)) (drawOk cfg (know (know70 N))) Try.f70.ntmps lv70 (cd Try.f70 [1, 1, 1, 0, 1, 0, 0]) (head70_0 t d l x2 x7) (AExit.then N0 (AExit.inBlock 0 (seqK cfg (know (know70 N)) (drawOk cfg (know (know70 N))) Try.f70.ntmps lv70 (cd Try.f70 [1, 1, 1, 1]) Q))) := by
  have e : (awp cfg (know (know70 N)) (drawOk cfg (know (know70 N))) Try.f70.ntmps lv70 (cd Try.f70 [1, 1, 1, 0, 1, 0, 0]) (head70_0 t d l x2 x7) (AExit.then N0 (AExit.inBlock 0 (seqK cfg (know (know70 N)) (drawOk cfg (know (know70 N))) Try.f70.ntmps lv70 (cd Try.f70 [1, 1, 1, 1]) Q)))) = (((decide ((x7 : Int) < ((Tree.kids t).length : Int))) = true → (decide ((x7 : Int) < ((Tree.kids t).length : Int))) = true) ∧ (((decide ((x7 : Int) < ((Tree.kids t).length : Int))) = true → (decide ((x7 : Int) < ((Tree.kids t).length : Int))) = true)) ∧ (((bif (decide ((x7 : Int) < ((Tree.kids t).length : Int))) then (decide ((0 : Int) ≤ x2)) else false) = true → (0 ≤ x7 ∧ x7 < ((Tree.kids t).length : Int)) ∧ (InR ((d : Int) - 1)) ∧ (pre70 ((Tree.mk (Tree.kind (List.getD (Tree.kids t) (Int.toNat x7) Tree.nil)) (Tree.words (List.getD (Tree.kids t) (Int.toNat x7) Tree.nil)) (Tree.kids (List.getD (Tree.kids t) (Int.toNat x7) Tree.nil))), ((d : Int) - 1), x2, ())) ∧ (mu70 ((Tree.mk (Tree.kind (List.getD (Tree.kids t) (Int.toNat x7) Tree.nil)) (Tree.words (List.getD (Tree.kids t) (Int.toNat x7) Tree.nil)) (Tree.kids (List.getD (Tree.kids t) (Int.toNat x7) Tree.nil))), ((d : Int) - 1), x2, ()) < N) ∧ ((InR ((x7 : Int) + 1)) ∧ (N0 (head70_0 t d l (shallow (Tree.mk (Tree.kind (List.getD (Tree.kids t) (Int.toNat x7) Tree.nil)) (Tree.words (List.getD (Tree.kids t) (Int.toNat x7) Tree.nil)) (Tree.kids (List.getD (Tree.kids t) (Int.toNat x7) Tree.nil))) ((d : Int) - 1) x2) ((x7 : Int) + 1))))) ∧ ((bif (decide ((x7 : Int) < ((Tree.kids t).length : Int))) then (decide ((0 : Int) ≤ x2)) else false) = false → (Q .ret (⟨[(6, .c (.int .i64 x2))], [], []⟩ : LSt U))))) := by kernel_rfl
  exact e.mpr h
def Body70 (N : Nat) (t : Tree) (d : Int) (l : Int)  : Prop := awp cfg (know (know70 N)) (drawOk cfg (know (know70 N))) Try.f70.ntmps lv70 (cd Try.f70 []) (entry (args70.can (t, d, l, ())) []) (EndsQ cfg Try.f70.ntmps Try.f70.results.toList (res70 (t, d, l, ())) [])
theorem make70 (hb : ∀ (N : Nat) (t : Tree) (d : Int) (l : Int) (_ : Unit), pre70 (t, d, l, ()) → mu70 (t, d, l, ()) < N + 1 → Body70 N t d l) : Contract Try.prog cfg 70 spec70 :=
  contract_rec (μ := mu70) (l := []) cfgOk rfl (trivial) lv70 Try.func70 rfl rfl 3 (fun _ => rfl) (by decide) (fun N ⟨t, d, l, _⟩ => hb N t d l ())

noncomputable def know33 : List (FuncId × Fs U) := [(70, spec70)]
def lv33 : Lives U := fun i => match i with
  | 0 => ([(1, [])], [((.loc 1), [])])
  | 1 => ([(2, [])], [])
  | _ => ([], [])
theorem vc33 (t : Tree) (Q : AExit → LSt U → Prop) (h : ((pre70 ((Tree.mk (Tree.kind t) (Tree.words t) (Tree.kids t)), 80, 3000, ())) ∧ (Q .ret (⟨[(2, .c (.bool (decide ((0 : Int) ≤ (shallow (Tree.mk (Tree.kind t) (Tree.words t) (Tree.kids t)) 80 3000)))))], [], []⟩ : LSt U)))) :
    awp cfg (know know33) (drawOk cfg (know know33)) Try.f33.ntmps lv33 (cd Try.f33 []) (⟨[(0, .agg [.int .i64 (Tree.kind t), .slice (U := U) .u64 (Tree.words t) .unk, .slice (U := U) .tree (Tree.kids t) .unk])], [], []⟩ : LSt U) Q := by
  have e : (awp cfg (know know33) (drawOk cfg (know know33)) Try.f33.ntmps lv33 (cd Try.f33 []) (⟨[(0, .agg [.int .i64 (Tree.kind t), .slice (U := U) .u64 (Tree.words t) .unk, .slice (U := U) .tree (Tree.kids t) .unk])], [], []⟩ : LSt U) Q) = (((pre70 ((Tree.mk (Tree.kind t) (Tree.words t) (Tree.kids t)), 80, 3000, ())) ∧ (Q .ret (⟨[(2, .c (.bool (decide ((0 : Int) ≤ (shallow (Tree.mk (Tree.kind t) (Tree.words t) (Tree.kids t)) 80 3000)))))], [], []⟩ : LSt U)))) := by kernel_rfl
  exact e.mpr h
def Body33 (t : Tree)  : Prop := awp cfg (know (know33)) (drawOk cfg (know (know33))) Try.f33.ntmps lv33 (cd Try.f33 []) (entry (args33.can (t, ())) []) (EndsQ cfg Try.f33.ntmps Try.f33.results.toList (res33 (t, ())) [])
theorem make33 (c70 : Contract Try.prog cfg 70 spec70) (hb : ∀ (t : Tree) (_ : Unit), pre33 (t, ()) → Body33 t) : Contract Try.prog cfg 33 spec33 :=
  contract_flat (l := [(70, spec70)]) cfgOk rfl (⟨c70, trivial⟩) lv33 Try.func33 rfl rfl 1 (fun _ => rfl) (by decide) (fun ⟨t, _⟩ => hb t ())

noncomputable def know80 : List (FuncId × Fs U) := []
def lv80 : Lives U := fun i => match i with
  | 0 => ([(0, [])], [])
  | 1 => ([(0, []), (3, [])], [])
  | 2 => ([(0, []), (3, []), (16, [])], [])
  | 3 => ([(0, []), (3, [])], [])
  | 4 => ([(0, []), (3, []), (4, [])], [])
  | 5 => ([(2, [])], [])
  | _ => ([], [])
def head80_0 (l : List Int) (x3 : Int) : LSt U := (⟨[(0, .c (.slice (U := U) .u64 l .unk)), (3, .c (.int .i64 x3))], [], []⟩ : LSt U)
theorem vc80 (l : List Int) (Q : AExit → LSt U → Prop) (h : ((LoopWp (awp cfg (know know80) (drawOk cfg (know know80)) Try.f80.ntmps lv80 (cd Try.f80 [1, 1, 0, 0, 0])) (head80_0 l (l.length : Int)) (AExit.inBlock 0 (seqK cfg (know know80) (drawOk cfg (know know80)) Try.f80.ntmps lv80 (cd Try.f80 [1, 1, 1]) Q))))) :
    awp cfg (know know80) (drawOk cfg (know know80)) Try.f80.ntmps lv80 (cd Try.f80 []) (⟨[(0, .c (.slice (U := U) .u64 l .unk))], [], []⟩ : LSt U) Q := by
  have e : (awp cfg (know know80) (drawOk cfg (know know80)) Try.f80.ntmps lv80 (cd Try.f80 []) (⟨[(0, .c (.slice (U := U) .u64 l .unk))], [], []⟩ : LSt U) Q) = (((LoopWp (awp cfg (know know80) (drawOk cfg (know know80)) Try.f80.ntmps lv80 (cd Try.f80 [1, 1, 0, 0, 0])) (head80_0 l (l.length : Int)) (AExit.inBlock 0 (seqK cfg (know know80) (drawOk cfg (know know80)) Try.f80.ntmps lv80 (cd Try.f80 [1, 1, 1]) Q))))) := by kernel_rfl
  exact e.mpr h
theorem vc80_l0 (l : List Int) (x3 : Int) (N0 : LSt U → Prop) (Q : AExit → LSt U → Prop) (h : ((decide ((0 : Int) < x3)) = true → (decide ((0 : Int) < x3)) = true) ∧ ((decide ((0 : Int) < x3)) = true → InR ((x3 : Int) - 1)) ∧ ((decide ((0 : Int) < x3)) = true → (decide ((0 : Int) < x3)) = true) ∧ ((decide ((0 : Int) < x3)) = true → (decide ((0 : Int) < x3)) = true) ∧ ((decide ((0 : Int) < x3)) = true → 0 ≤ ((x3 : Int) - 1) ∧ ((x3 : Int) - 1) < (l.length : Int)) ∧ ((decide ((0 : Int) < x3)) = true → (decide ((0 : Int) < x3)) = true) ∧ ((decide ((0 : Int) < x3)) = true → (decide ((0 : Int) < x3)) = true) ∧ (((decide ((0 : Int) < x3)) = true → (decide ((0 : Int) < x3)) = true)) ∧ (((bif (decide ((0 : Int) < x3)) then (((List.getD l (Int.toNat ((x3 : Int) - 1)) (0 : Int)) : Int) == 0) else false) = true → (InR ((x3 : Int) - 1)) ∧ (N0 (head80_0 l ((x3 : Int) - 1)))) ∧ ((bif (decide ((0 : Int) < x3)) then (((List.getD l (Int.toNat ((x3 : Int) - 1)) (0 : Int)) : Int) == 0) else false) = false → ((0 ≤ x3 ∧ x3 ≤ (l.length : Int)) ∧ ((([] : List Int).length + (List.take (Int.toNat x3) l).length) * 8 ≤ 140737488355328) ∧ (Q .ret (⟨[(2, .c (.slice (U := U) .u64 (([] : List Int) ++ (List.take (Int.toNat x3) l)) (.own (.e 2 0))))], [], []⟩ : LSt U)))))) :
    awp cfg (know know80) (drawOk cfg (know know80)) Try.f80.ntmps lv80 (cd Try.f80 [1, 1, 0, 0, 0]) (head80_0 l x3) (AExit.then N0 (AExit.inBlock 0 (seqK cfg (know know80) (drawOk cfg (know know80)) Try.f80.ntmps lv80 (cd Try.f80 [1, 1, 1]) Q))) := by
  have e : (awp cfg (know know80) (drawOk cfg (know know80)) Try.f80.ntmps lv80 (cd Try.f80 [1, 1, 0, 0, 0]) (head80_0 l x3) (AExit.then N0 (AExit.inBlock 0 (seqK cfg (know know80) (drawOk cfg (know know80)) Try.f80.ntmps lv80 (cd Try.f80 [1, 1, 1]) Q)))) = (((decide ((0 : Int) < x3)) = true → (decide ((0 : Int) < x3)) = true) ∧ ((decide ((0 : Int) < x3)) = true → InR ((x3 : Int) - 1)) ∧ ((decide ((0 : Int) < x3)) = true → (decide ((0 : Int) < x3)) = true) ∧ ((decide ((0 : Int) < x3)) = true → (decide ((0 : Int) < x3)) = true) ∧ ((decide ((0 : Int) < x3)) = true → 0 ≤ ((x3 : Int) - 1) ∧ ((x3 : Int) - 1) < (l.length : Int)) ∧ ((decide ((0 : Int) < x3)) = true → (decide ((0 : Int) < x3)) = true) ∧ ((decide ((0 : Int) < x3)) = true → (decide ((0 : Int) < x3)) = true) ∧ (((decide ((0 : Int) < x3)) = true → (decide ((0 : Int) < x3)) = true)) ∧ (((bif (decide ((0 : Int) < x3)) then (((List.getD l (Int.toNat ((x3 : Int) - 1)) (0 : Int)) : Int) == 0) else false) = true → (InR ((x3 : Int) - 1)) ∧ (N0 (head80_0 l ((x3 : Int) - 1)))) ∧ ((bif (decide ((0 : Int) < x3)) then (((List.getD l (Int.toNat ((x3 : Int) - 1)) (0 : Int)) : Int) == 0) else false) = false → ((0 ≤ x3 ∧ x3 ≤ (l.length : Int)) ∧ ((([] : List Int).length + (List.take (Int.toNat x3) l).length) * 8 ≤ 140737488355328) ∧ (Q .ret (⟨[(2, .c (.slice (U := U) .u64 (([] : List Int) ++ (List.take (Int.toNat x3) l)) (.own (.e 2 0))))], [], []⟩ : LSt U)))))) := by kernel_rfl
  exact e.mpr h
def Body80 (l : List Int)  : Prop := awp cfg (know (know80)) (drawOk cfg (know (know80))) Try.f80.ntmps lv80 (cd Try.f80 []) (entry (args80.can (l, ())) []) (EndsQ cfg Try.f80.ntmps Try.f80.results.toList (res80 (l, ())) [])
theorem make80 (hb : ∀ (l : List Int) (_ : Unit), pre80 (l, ()) → Body80 l) : Contract Try.prog cfg 80 spec80 :=
  contract_flat (l := []) cfgOk rfl (trivial) lv80 Try.func80 rfl rfl 1 (fun _ => rfl) (by decide) (fun ⟨l, _⟩ => hb l ())

noncomputable def know100 : List (FuncId × Fs U) := []
def lv100 : Lives U := fun i => match i with
  | 0 => ([(1, []), (2, [])], [((.loc 2), [])])
  | 1 => ([(1, []), (2, []), (13, [])], [((.loc 2), [])])
  | 2 => ([(4, [])], [])
  | 3 => ([(4, [])], [])
  | _ => ([], [])
theorem vc100 (t : Tree) (i : Int) (Q : AExit → LSt U → Prop) (h : (((!(decide ((i : Int) < 0))) = true → (!(decide ((i : Int) < 0))) = true) ∧ ((!(decide ((i : Int) < 0))) = true → (!(decide ((i : Int) < 0))) = true) ∧ ((!(decide ((i : Int) < 0))) = true → (!(decide ((i : Int) < 0))) = true) ∧ ((!(decide ((i : Int) < 0))) = true → (!(decide ((i : Int) < 0))) = true) ∧ (((decide ((i : Int) < 0)) = false → (!(decide ((i : Int) < 0))) = true)) ∧ (((bif (decide ((i : Int) < 0)) then true else (decide ((((Tree.words t).length : Int) : Int) ≤ i))) = true → (Q .ret (⟨[(4, .c (.int .u64 0))], [], []⟩ : LSt U))) ∧ ((bif (decide ((i : Int) < 0)) then true else (decide ((((Tree.words t).length : Int) : Int) ≤ i))) = false → (0 ≤ i ∧ i < ((Tree.words t).length : Int)) ∧ (Q .ret (⟨[(4, .c (.int .u64 (List.getD (Tree.words t) (Int.toNat i) (0 : Int))))], [], []⟩ : LSt U)))))) :
    awp cfg (know know100) (drawOk cfg (know know100)) Try.f100.ntmps lv100 (cd Try.f100 []) (⟨[(0, .agg [.int .i64 (Tree.kind t), .slice (U := U) .u64 (Tree.words t) .unk, .slice (U := U) .tree (Tree.kids t) .unk]), (1, .c (.int .i64 i))], [], []⟩ : LSt U) Q := by
  have e : (awp cfg (know know100) (drawOk cfg (know know100)) Try.f100.ntmps lv100 (cd Try.f100 []) (⟨[(0, .agg [.int .i64 (Tree.kind t), .slice (U := U) .u64 (Tree.words t) .unk, .slice (U := U) .tree (Tree.kids t) .unk]), (1, .c (.int .i64 i))], [], []⟩ : LSt U) Q) = ((((!(decide ((i : Int) < 0))) = true → (!(decide ((i : Int) < 0))) = true) ∧ ((!(decide ((i : Int) < 0))) = true → (!(decide ((i : Int) < 0))) = true) ∧ ((!(decide ((i : Int) < 0))) = true → (!(decide ((i : Int) < 0))) = true) ∧ ((!(decide ((i : Int) < 0))) = true → (!(decide ((i : Int) < 0))) = true) ∧ (((decide ((i : Int) < 0)) = false → (!(decide ((i : Int) < 0))) = true)) ∧ (((bif (decide ((i : Int) < 0)) then true else (decide ((((Tree.words t).length : Int) : Int) ≤ i))) = true → (Q .ret (⟨[(4, .c (.int .u64 0))], [], []⟩ : LSt U))) ∧ ((bif (decide ((i : Int) < 0)) then true else (decide ((((Tree.words t).length : Int) : Int) ≤ i))) = false → (0 ≤ i ∧ i < ((Tree.words t).length : Int)) ∧ (Q .ret (⟨[(4, .c (.int .u64 (List.getD (Tree.words t) (Int.toNat i) (0 : Int))))], [], []⟩ : LSt U)))))) := by kernel_rfl
  exact e.mpr h
def Body100 (t : Tree) (i : Int)  : Prop := awp cfg (know (know100)) (drawOk cfg (know (know100))) Try.f100.ntmps lv100 (cd Try.f100 []) (entry (args100.can (t, i, ())) []) (EndsQ cfg Try.f100.ntmps Try.f100.results.toList (res100 (t, i, ())) [])
theorem make100 (hb : ∀ (t : Tree) (i : Int) (_ : Unit), pre100 (t, i, ()) → Body100 t i) : Contract Try.prog cfg 100 spec100 :=
  contract_flat (l := []) cfgOk rfl (trivial) lv100 Try.func100 rfl rfl 2 (fun _ => rfl) (by decide) (fun ⟨t, i, _⟩ => hb t i ())

noncomputable def know50 (N : Nat) : List (FuncId × Fs U) := (50, fs args50 (fun a => [pre50 a, mu50 a < N]) res50) :: [(80, spec80)]
def lv50 : Lives U := fun i => match i with
  | 0 => ([(1, []), (2, [])], [((.loc 1), []), ((.loc 2), [])])
  | 1 => ([(1, []), (2, []), (10, [])], [((.loc 1), []), ((.loc 2), [])])
  | 2 => ([(2, [])], [((.loc 2), [])])
  | 3 => ([(1, []), (2, []), (3, [])], [((.loc 1), []), ((.loc 2), [])])
  | 4 => ([(1, []), (2, []), (3, []), (4, [])], [((.loc 1), []), ((.loc 2), [])])
  | 5 => ([(1, []), (2, []), (3, [.own .tree]), (4, []), (5, [])], [((.loc 1), []), ((.loc 2), [])])
  | 6 => ([(1, []), (2, []), (3, []), (4, []), (5, []), (16, [])], [((.loc 1), []), ((.loc 2), [])])
  | 7 => ([(1, []), (2, []), (3, [.own .tree]), (4, []), (5, [])], [((.loc 1), []), ((.loc 2), [])])
  | 8 => ([(1, []), (2, []), (3, []), (4, []), (5, []), (6, [])], [((.loc 1), []), ((.loc 2), []), ((.loc 6), [])])
  | 9 => ([(1, []), (2, []), (3, []), (4, []), (5, []), (6, [])], [((.loc 1), []), ((.loc 2), []), ((.loc 6), [])])
  | 10 => ([(1, []), (2, []), (3, []), (4, []), (5, []), (31, [])], [((.loc 1), []), ((.loc 2), [])])
  | 11 => ([(1, []), (2, []), (3, []), (4, []), (5, [])], [((.loc 1), []), ((.loc 2), [])])
  | 12 => ([(1, []), (2, []), (3, []), (4, []), (36, [])], [((.loc 1), []), ((.loc 2), [])])
  | 13 => ([(2, [])], [((.loc 2), [])])
  | 14 => ([(1, []), (2, []), (3, []), (7, [])], [((.loc 1), []), ((.loc 2), [])])
  | 15 => ([(1, []), (2, []), (3, []), (7, [])], [((.loc 1), []), ((.loc 2), [])])
  | 16 => ([(2, [])], [((.loc 2), [])])
  | _ => ([], [])
def head50_0 (t : Tree) (x4 : Int) (x5 : Int) (x3 : List Tree) : LSt U := (⟨[(1, .ptr (.loc 1) 0), (2, .ptr (.loc 2) 0), (3, .c (.slice (U := U) .tree x3 (.own (.e 3 0)))), (4, .c (.int .i64 x4)), (5, .c (.int .i64 x5))], [((.loc 1), [.int .i64 (Tree.kind t), .slice (U := U) .u64 (Tree.words t) .unk, .slice (U := U) .tree (Tree.kids t) .unk]), ((.loc 2), [.int .i64 0, .nils, .nils])], []⟩ : LSt U)
theorem vc50 (N : Nat) (t : Tree) (Q : AExit → LSt U → Prop) (h : ((((((Tree.kind t) : Int) == 0) = true → (Q .ret (⟨[(2, .ptr (.loc 2) 0)], [((.loc 2), [.int .i64 0, .nils, .nils])], []⟩ : LSt U))) ∧ ((((Tree.kind t) : Int) == 0) = false → (((LoopWp (awp cfg (know (know50 N)) (drawOk cfg (know (know50 N))) Try.f50.ntmps lv50 (cd Try.f50 [1, 1, 1, 1, 0, 1, 0, 0])) (head50_0 t 0 0 ([])) (AExit.inBlock 0 (seqK cfg (know (know50 N)) (drawOk cfg (know (know50 N))) Try.f50.ntmps lv50 (cd Try.f50 [1, 1, 1, 1, 1]) Q))))))))) :
    awp cfg (know (know50 N)) (drawOk cfg (know (know50 N))) Try.f50.ntmps lv50 (cd Try.f50 []) (⟨[(0, .agg [.int .i64 (Tree.kind t), .slice (U := U) .u64 (Tree.words t) .unk, .slice (U := U) .tree (Tree.kids t) .unk])], [], []⟩ : LSt U) Q := by
  have e : (awp cfg (know (know50 N)) (drawOk cfg (know (know50 N))) Try.f50.ntmps lv50 (cd Try.f50 []) (⟨[(0, .agg [.int .i64 (Tree.kind t), .slice (U := U) .u64 (Tree.words t) .unk, .slice (U := U) .tree (Tree.kids t) .unk])], [], []⟩ : LSt U) Q) = (((((((Tree.kind t) : Int) == 0) = true → (Q .ret (⟨[(2, .ptr (.loc 2) 0)], [((.loc 2), [.int .i64 0, .nils, .nils])], []⟩ : LSt U))) ∧ ((((Tree.kind t) : Int) == 0) = false → (((LoopWp (awp cfg (know (know50 N)) (drawOk cfg (know (know50 N))) Try.f50.ntmps lv50 (cd Try.f50 [1, 1, 1, 1, 0, 1, 0, 0])) (head50_0 t 0 0 ([])) (AExit.inBlock 0 (seqK cfg (know (know50 N)) (drawOk cfg (know (know50 N))) Try.f50.ntmps lv50 (cd Try.f50 [1, 1, 1, 1, 1]) Q))))))))) := by kernel_rfl
  exact e.mpr h
theorem vc50_l0 (N : Nat) (t : Tree) (x4 : Int) (x5 : Int) (x3 : List Tree) (N0 : LSt U → Prop) (Q : AExit → LSt U → Prop) (h : (((decide ((x5 : Int) < ((Tree.kids t).length : Int))) = true → (0 ≤ x5 ∧ x5 < ((Tree.kids t).length : Int)) ∧ (pre50 ((Tree.mk (Tree.kind (List.getD (Tree.kids t) (Int.toNat x5) Tree.nil)) (Tree.words (List.getD (Tree.kids t) (Int.toNat x5) Tree.nil)) (Tree.kids (List.getD (Tree.kids t) (Int.toNat x5) Tree.nil))), ())) ∧ (mu50 ((Tree.mk (Tree.kind (List.getD (Tree.kids t) (Int.toNat x5) Tree.nil)) (Tree.words (List.getD (Tree.kids t) (Int.toNat x5) Tree.nil)) (Tree.kids (List.getD (Tree.kids t) (Int.toNat x5) Tree.nil))), ()) < N) ∧ (((x3.length + ([(Tree.mk (Tree.kind (normT (Tree.mk (Tree.kind (List.getD (Tree.kids t) (Int.toNat x5) Tree.nil)) (Tree.words (List.getD (Tree.kids t) (Int.toNat x5) Tree.nil)) (Tree.kids (List.getD (Tree.kids t) (Int.toNat x5) Tree.nil))))) (Tree.words (normT (Tree.mk (Tree.kind (List.getD (Tree.kids t) (Int.toNat x5) Tree.nil)) (Tree.words (List.getD (Tree.kids t) (Int.toNat x5) Tree.nil)) (Tree.kids (List.getD (Tree.kids t) (Int.toNat x5) Tree.nil))))) (Tree.kids (normT (Tree.mk (Tree.kind (List.getD (Tree.kids t) (Int.toNat x5) Tree.nil)) (Tree.words (List.getD (Tree.kids t) (Int.toNat x5) Tree.nil)) (Tree.kids (List.getD (Tree.kids t) (Int.toNat x5) Tree.nil))))))]).length) * 56 ≤ 140737488355328) ∧ ((((((Tree.kind (normT (Tree.mk (Tree.kind (List.getD (Tree.kids t) (Int.toNat x5) Tree.nil)) (Tree.words (List.getD (Tree.kids t) (Int.toNat x5) Tree.nil)) (Tree.kids (List.getD (Tree.kids t) (Int.toNat x5) Tree.nil))))) : Int) != 0) = true → (InR ((x5 : Int) + 1)) ∧ ((InR ((x5 : Int) + 1)) ∧ (N0 (head50_0 t ((x5 : Int) + 1) ((x5 : Int) + 1) (x3 ++ ([(Tree.mk (Tree.kind (normT (Tree.mk (Tree.kind (List.getD (Tree.kids t) (Int.toNat x5) Tree.nil)) (Tree.words (List.getD (Tree.kids t) (Int.toNat x5) Tree.nil)) (Tree.kids (List.getD (Tree.kids t) (Int.toNat x5) Tree.nil))))) (Tree.words (normT (Tree.mk (Tree.kind (List.getD (Tree.kids t) (Int.toNat x5) Tree.nil)) (Tree.words (List.getD (Tree.kids t) (Int.toNat x5) Tree.nil)) (Tree.kids (List.getD (Tree.kids t) (Int.toNat x5) Tree.nil))))) (Tree.kids (normT (Tree.mk (Tree.kind (List.getD (Tree.kids t) (Int.toNat x5) Tree.nil)) (Tree.words (List.getD (Tree.kids t) (Int.toNat x5) Tree.nil)) (Tree.kids (List.getD (Tree.kids t) (Int.toNat x5) Tree.nil))))))])))))) ∧ ((((Tree.kind (normT (Tree.mk (Tree.kind (List.getD (Tree.kids t) (Int.toNat x5) Tree.nil)) (Tree.words (List.getD (Tree.kids t) (Int.toNat x5) Tree.nil)) (Tree.kids (List.getD (Tree.kids t) (Int.toNat x5) Tree.nil))))) : Int) != 0) = false → (InR ((x5 : Int) + 1)) ∧ (N0 (head50_0 t x4 ((x5 : Int) + 1) (x3 ++ ([(Tree.mk (Tree.kind (normT (Tree.mk (Tree.kind (List.getD (Tree.kids t) (Int.toNat x5) Tree.nil)) (Tree.words (List.getD (Tree.kids t) (Int.toNat x5) Tree.nil)) (Tree.kids (List.getD (Tree.kids t) (Int.toNat x5) Tree.nil))))) (Tree.words (normT (Tree.mk (Tree.kind (List.getD (Tree.kids t) (Int.toNat x5) Tree.nil)) (Tree.words (List.getD (Tree.kids t) (Int.toNat x5) Tree.nil)) (Tree.kids (List.getD (Tree.kids t) (Int.toNat x5) Tree.nil))))) (Tree.kids (normT (Tree.mk (Tree.kind (List.getD (Tree.kids t) (Int.toNat x5) Tree.nil)) (Tree.words (List.getD (Tree.kids t) (Int.toNat x5) Tree.nil)) (Tree.kids (List.getD (Tree.kids t) (Int.toNat x5) Tree.nil))))))]))))))))) ∧ ((decide ((x5 : Int) < ((Tree.kids t).length : Int))) = false → (((((Tree.kind t) : Int) == 1) = true → (pre80 ((Tree.words t), ())) ∧ (0 ≤ x4 ∧ x4 ≤ (x3.length : Int)) ∧ (Q .ret (⟨[(2, .ptr (.loc 2) 0)], [((.loc 2), [.int .i64 1, .slice (U := U) .u64 (trim (Tree.words t)) .unk, .slice (U := U) .tree (List.take (Int.toNat x4) x3) .unk])], []⟩ : LSt U))) ∧ ((((Tree.kind t) : Int) == 1) = false → (((([] : List Int).length + (Tree.words t).length) * 8 ≤ 140737488355328) ∧ ((Q .ret (⟨[(2, .ptr (.loc 2) 0)], [((.loc 2), [.int .i64 (Tree.kind t), .slice (U := U) .u64 (([] : List Int) ++ (Tree.words t)) (.own (.l 2 1)), .slice (U := U) .tree x3 (.own (.l 2 2))])], []⟩ : LSt U))))))))) :
    awp cfg (know (know50 N)) (drawOk cfg (know (know50 N))) Try.f50.ntmps lv50 (cd Try.f50 [1, 1, 1, 1, 0, 1, 0, 0]) (head50_0 t x4 x5 x3) (AExit.then N0 (AExit.inBlock 0 (seqK cfg (know (know50 N)) (drawOk cfg (know (know50 N))) Try.f50.ntmps lv50 (cd Try.f50 [1, 1, 1, 1, 1]) Q))) := by
  have e : (awp cfg (know (know50 N)) (drawOk cfg (know (know50 N))) Try.f50.ntmps lv50 (cd Try.f50 [1, 1, 1, 1, 0, 1, 0, 0]) (head50_0 t x4 x5 x3) (AExit.then N0 (AExit.inBlock 0 (seqK cfg (know (know50 N)) (drawOk cfg (know (know50 N))) Try.f50.ntmps lv50 (cd Try.f50 [1, 1, 1, 1, 1]) Q)))) = ((((decide ((x5 : Int) < ((Tree.kids t).length : Int))) = true → (0 ≤ x5 ∧ x5 < ((Tree.kids t).length : Int)) ∧ (pre50 ((Tree.mk (Tree.kind (List.getD (Tree.kids t) (Int.toNat x5) Tree.nil)) (Tree.words (List.getD (Tree.kids t) (Int.toNat x5) Tree.nil)) (Tree.kids (List.getD (Tree.kids t) (Int.toNat x5) Tree.nil))), ())) ∧ (mu50 ((Tree.mk (Tree.kind (List.getD (Tree.kids t) (Int.toNat x5) Tree.nil)) (Tree.words (List.getD (Tree.kids t) (Int.toNat x5) Tree.nil)) (Tree.kids (List.getD (Tree.kids t) (Int.toNat x5) Tree.nil))), ()) < N) ∧ (((x3.length + ([(Tree.mk (Tree.kind (normT (Tree.mk (Tree.kind (List.getD (Tree.kids t) (Int.toNat x5) Tree.nil)) (Tree.words (List.getD (Tree.kids t) (Int.toNat x5) Tree.nil)) (Tree.kids (List.getD (Tree.kids t) (Int.toNat x5) Tree.nil))))) (Tree.words (normT (Tree.mk (Tree.kind (List.getD (Tree.kids t) (Int.toNat x5) Tree.nil)) (Tree.words (List.getD (Tree.kids t) (Int.toNat x5) Tree.nil)) (Tree.kids (List.getD (Tree.kids t) (Int.toNat x5) Tree.nil))))) (Tree.kids (normT (Tree.mk (Tree.kind (List.getD (Tree.kids t) (Int.toNat x5) Tree.nil)) (Tree.words (List.getD (Tree.kids t) (Int.toNat x5) Tree.nil)) (Tree.kids (List.getD (Tree.kids t) (Int.toNat x5) Tree.nil))))))]).length) * 56 ≤ 140737488355328) ∧ ((((((Tree.kind (normT (Tree.mk (Tree.kind (List.getD (Tree.kids t) (Int.toNat x5) Tree.nil)) (Tree.words (List.getD (Tree.kids t) (Int.toNat x5) Tree.nil)) (Tree.kids (List.getD (Tree.kids t) (Int.toNat x5) Tree.nil))))) : Int) != 0) = true → (InR ((x5 : Int) + 1)) ∧ ((InR ((x5 : Int) + 1)) ∧ (N0 (head50_0 t ((x5 : Int) + 1) ((x5 : Int) + 1) (x3 ++ ([(Tree.mk (Tree.kind (normT (Tree.mk (Tree.kind (List.getD (Tree.kids t) (Int.toNat x5) Tree.nil)) (Tree.words (List.getD (Tree.kids t) (Int.toNat x5) Tree.nil)) (Tree.kids (List.getD (Tree.kids t) (Int.toNat x5) Tree.nil))))) (Tree.words (normT (Tree.mk (Tree.kind (List.getD (Tree.kids t) (Int.toNat x5) Tree.nil)) (Tree.words (List.getD (Tree.kids t) (Int.toNat x5) Tree.nil)) (Tree.kids (List.getD (Tree.kids t) (Int.toNat x5) Tree.nil))))) (Tree.kids (normT (Tree.mk (Tree.kind (List.getD (Tree.kids t) (Int.toNat x5) Tree.nil)) (Tree.words (List.getD (Tree.kids t) (Int.toNat x5) Tree.nil)) (Tree.kids (List.getD (Tree.kids t) (Int.toNat x5) Tree.nil))))))])))))) ∧ ((((Tree.kind (normT (Tree.mk (Tree.kind (List.getD (Tree.kids t) (Int.toNat x5) Tree.nil)) (Tree.words (List.getD (Tree.kids t) (Int.toNat x5) Tree.nil)) (Tree.kids (List.getD (Tree.kids t) (Int.toNat x5) Tree.nil))))) : Int) != 0) = false → (InR ((x5 : Int) + 1)) ∧ (N0 (head50_0 t x4 ((x5 : Int) + 1) (x3 ++ ([(Tree.mk (Tree.kind (normT (Tree.mk (Tree.kind (List.getD (Tree.kids t) (Int.toNat x5) Tree.nil)) (Tree.words (List.getD (Tree.kids t) (Int.toNat x5) Tree.nil)) (Tree.kids (List.getD (Tree.kids t) (Int.toNat x5) Tree.nil))))) (Tree.words (normT (Tree.mk (Tree.kind (List.getD (Tree.kids t) (Int.toNat x5) Tree.nil)) (Tree.words (List.getD (Tree.kids t) (Int.toNat x5) Tree.nil)) (Tree.kids (List.getD (Tree.kids t) (Int.toNat x5) Tree.nil))))) (Tree.kids (normT (Tree.mk (Tree.kind (List.getD (Tree.kids t) (Int.toNat x5) Tree.nil)) (Tree.words (List.getD (Tree.kids t) (Int.toNat x5) Tree.nil)) (Tree.kids (List.getD (Tree.kids t) (Int.toNat x5) Tree.nil))))))]))))))))) ∧ ((decide ((x5 : Int) < ((Tree.kids t).length : Int))) = false → (((((Tree.kind t) : Int) == 1) = true → (pre80 ((Tree.words t), ())) ∧ (0 ≤ x4 ∧ x4 ≤ (x3.length : Int)) ∧ (Q .ret (⟨[(2, .ptr (.loc 2) 0)], [((.loc 2), [.int .i64 1, .slice (U := U) .u64 (trim (Tree.words t)) .unk, .slice (U := U) .tree (List.take (Int.toNat x4) x3) .unk])], []⟩ : LSt U))) ∧ ((((Tree.kind t) : Int) == 1) = false → (((([] : List Int).length + (Tree.words t).length) * 8 ≤ 140737488355328) ∧ ((Q .ret (⟨[(2, .ptr (.loc 2) 0)], [((.loc 2), [.int .i64 (Tree.kind t), .slice (U := U) .u64 (([] : List Int) ++ (Tree.words t)) (.own (.l 2 1)), .slice (U := U) .tree x3 (.own (.l 2 2))])], []⟩ : LSt U))))))))) := by kernel_rfl
  exact e.mpr h
def Body50 (N : Nat) (t : Tree)  : Prop := awp cfg (know (know50 N)) (drawOk cfg (know (know50 N))) Try.f50.ntmps lv50 (cd Try.f50 []) (entry (args50.can (t, ())) []) (EndsQ cfg Try.f50.ntmps Try.f50.results.toList (res50 (t, ())) [])
theorem make50 (c80 : Contract Try.prog cfg 80 spec80) (hb : ∀ (N : Nat) (t : Tree) (_ : Unit), pre50 (t, ()) → mu50 (t, ()) < N + 1 → Body50 N t) : Contract Try.prog cfg 50 spec50 :=
  contract_rec (μ := mu50) (l := [(80, spec80)]) cfgOk rfl (⟨c80, trivial⟩) lv50 Try.func50 rfl rfl 1 (fun _ => rfl) (by decide) (fun N ⟨t, _⟩ => hb N t ())

noncomputable def know72 (N : Nat) : List (FuncId × Fs U) := (72, fs args72 (fun a => [pre72 a, mu72 a < N]) res72) :: [(60, spec60)]
def lv72 : Lives U := fun i => match i with
  | 0 => ([(1, []), (2, [])], [((.loc 1), []), ((.loc 2), [])])
  | 1 => ([(1, []), (2, []), (8, [])], [((.loc 1), []), ((.loc 2), [])])
  | 2 => ([(2, [])], [((.loc 2), [])])
  | 3 => ([(1, []), (2, []), (3, [])], [((.loc 1), []), ((.loc 2), []), ((.loc 3), [])])
  | 4 => ([(1, []), (2, []), (3, []), (17, []), (18, []), (19, [])], [((.loc 1), []), ((.loc 2), []), ((.loc 3), [.any, .any, .own .tree])])
  | 5 => ([(1, []), (2, []), (3, []), (17, []), (18, []), (19, []), (20, [])], [((.loc 1), []), ((.loc 2), []), ((.loc 3), [])])
  | 6 => ([(1, []), (2, []), (3, []), (5, []), (17, []), (18, []), (19, [])], [((.loc 1), []), ((.loc 2), []), ((.loc 3), []), ((.loc 5), [])])
  | 7 => ([(1, []), (2, []), (3, []), (17, []), (18, []), (19, [])], [((.loc 1), []), ((.loc 2), []), ((.loc 3), [])])
  | 8 => ([(1, []), (2, []), (3, []), (17, []), (18, []), (19, [])], [((.loc 1), []), ((.loc 2), []), ((.loc 3), [.any, .any, .own .tree])])
  | 9 => ([(2, []), (3, []), (33, [])], [((.loc 2), []), ((.loc 3), [.any, .any, .unk .tree])])
  | 10 => ([(2, []), (3, []), (33, []), (48, [])], [((.loc 2), []), ((.loc 3), [.any, .any, .unk .tree])])
  | 11 => ([(2, []), (3, []), (33, [])], [((.loc 2), []), ((.loc 3), [.any, .any, .unk .tree])])
  | 12 => ([(2, []), (3, []), (33, []), (48, []), (72, [])], [((.loc 2), []), ((.loc 3), [])])
  | 13 => ([(2, []), (3, []), (33, []), (48, [])], [((.loc 2), []), ((.loc 3), [.any, .any, .unk .tree])])
  | 14 => ([(2, [])], [((.loc 2), [])])
  | _ => ([], [])
def head72_0 (t : Tree) (x19 : Int) (ml3_2 : List Tree) : LSt U := (⟨[(1, .ptr (.loc 1) 0), (2, .ptr (.loc 2) 0), (3, .ptr (.loc 3) 0), (17, .c (.slice (U := U) .tree (Tree.kids t) .unk)), (18, .c (.int .i64 ((Tree.kids t).length : Int))), (19, .c (.int .i64 x19))], [((.loc 1), [.int .i64 (Tree.kind t), .slice (U := U) .u64 (Tree.words t) .unk, .slice (U := U) .tree (Tree.kids t) .unk]), ((.loc 2), [.int .i64 0, .nils, .nils]), ((.loc 3), [.int .i64 (Tree.kind t), .slice (U := U) .u64 (Tree.words t) .unk, .slice (U := U) .tree ml3_2 (.own (.l 3 2))])], []⟩ : LSt U)
def head72_1 (t : Tree) (ml3_2 : List Tree) (ml3_1_a : List Int) : LSt U := (⟨[(2, .ptr (.loc 2) 0), (3, .ptr (.loc 3) 0), (33, .c (.bool (((Tree.kind t) : Int) == 1)))], [((.loc 2), [.int .i64 0, .nils, .nils]), ((.loc 3), [.int .i64 (Tree.kind t), .slice (U := U) .u64 ml3_1_a .unk, .slice (U := U) .tree ml3_2 .unk])], []⟩ : LSt U)
def head72_2 (t : Tree) (ml3_1_a : List Int) (ml3_2_b : List Tree) : LSt U := (⟨[(2, .ptr (.loc 2) 0), (3, .ptr (.loc 3) 0), (33, .c (.bool (((Tree.kind t) : Int) == 1))), (48, .c (.bool (bif (decide ((0 : Int) < (ml3_1_a.length : Int))) then (((List.getD ml3_1_a (Int.toNat (((ml3_1_a.length : Int) : Int) - 1)) (0 : Int)) : Int) == 0) else false)))], [((.loc 2), [.int .i64 0, .nils, .nils]), ((.loc 3), [.int .i64 (Tree.kind t), .slice (U := U) .u64 ml3_1_a .unk, .slice (U := U) .tree ml3_2_b .unk])], []⟩ : LSt U)
theorem vc72 (N : Nat) (t : Tree) (Q : AExit → LSt U → Prop) (h : ((((((Tree.kind t) : Int) == 0) = true → (Q .ret (⟨[(2, .ptr (.loc 2) 0)], [((.loc 2), [.int .i64 0, .nils, .nils])], []⟩ : LSt U))) ∧ ((((Tree.kind t) : Int) == 0) = false → (pre60 ((Tree.words t), ())) ∧ ((LoopWp (awp cfg (know (know72 N)) (drawOk cfg (know (know72 N))) Try.f72.ntmps lv72 (cd Try.f72 [1, 1, 1, 0, 1, 0, 0])) (head72_0 t 0 ([])) (AExit.inBlock 0 (seqK cfg (know (know72 N)) (drawOk cfg (know (know72 N))) Try.f72.ntmps lv72 (cd Try.f72 [1, 1, 1, 1]) Q)))))))) :
    awp cfg (know (know72 N)) (drawOk cfg (know (know72 N))) Try.f72.ntmps lv72 (cd Try.f72 []) (⟨[(0, .agg [.int .i64 (Tree.kind t), .slice (U := U) .u64 (Tree.words t) .unk, .slice (U := U) .tree (Tree.kids t) .unk])], [], []⟩ : LSt U) Q := by
  have e : (awp cfg (know (know72 N)) (drawOk cfg (know (know72 N))) Try.f72.ntmps lv72 (cd Try.f72 []) (⟨[(0, .agg [.int .i64 (Tree.kind t), .slice (U := U) .u64 (Tree.words t) .unk, .slice (U := U) .tree (Tree.kids t) .unk])], [], []⟩ : LSt U) Q) = (((((((Tree.kind t) : Int) == 0) = true → (Q .ret (⟨[(2, .ptr (.loc 2) 0)], [((.loc 2), [.int .i64 0, .nils, .nils])], []⟩ : LSt U))) ∧ ((((Tree.kind t) : Int) == 0) = false → (pre60 ((Tree.words t), ())) ∧ ((LoopWp (awp cfg (know (know72 N)) (drawOk cfg (know (know72 N))) Try.f72.ntmps lv72 (cd Try.f72 [1, 1, 1, 0, 1, 0, 0])) (head72_0 t 0 ([])) (AExit.inBlock 0 (seqK cfg (know (know72 N)) (drawOk cfg (know (know72 N))) Try.f72.ntmps lv72 (cd Try.f72 [1, 1, 1, 1]) Q)))))))) := by kernel_rfl
  exact e.mpr h
theorem vc72_l0 (N : Nat) (t : Tree) (x19 : Int) (ml3_2 : List Tree) (N0 : LSt U → Prop) (Q : AExit → LSt U → Prop) (h : (((decide ((x19 : Int) < ((Tree.kids t).length : Int))) = true → (0 ≤ x19 ∧ x19 < ((Tree.kids t).length : Int)) ∧ ((pre72 ((Tree.mk (Tree.kind (List.getD (Tree.kids t) (Int.toNat x19) Tree.nil)) (Tree.words (List.getD (Tree.kids t) (Int.toNat x19) Tree.nil)) (Tree.kids (List.getD (Tree.kids t) (Int.toNat x19) Tree.nil))), ())) ∧ (mu72 ((Tree.mk (Tree.kind (List.getD (Tree.kids t) (Int.toNat x19) Tree.nil)) (Tree.words (List.getD (Tree.kids t) (Int.toNat x19) Tree.nil)) (Tree.kids (List.getD (Tree.kids t) (Int.toNat x19) Tree.nil))), ()) < N) ∧ ((ml3_2.length + ([(Tree.mk (Tree.kind (normT (Tree.mk (Tree.kind (List.getD (Tree.kids t) (Int.toNat x19) Tree.nil)) (Tree.words (List.getD (Tree.kids t) (Int.toNat x19) Tree.nil)) (Tree.kids (List.getD (Tree.kids t) (Int.toNat x19) Tree.nil))))) (Tree.words (normT (Tree.mk (Tree.kind (List.getD (Tree.kids t) (Int.toNat x19) Tree.nil)) (Tree.words (List.getD (Tree.kids t) (Int.toNat x19) Tree.nil)) (Tree.kids (List.getD (Tree.kids t) (Int.toNat x19) Tree.nil))))) (Tree.kids (normT (Tree.mk (Tree.kind (List.getD (Tree.kids t) (Int.toNat x19) Tree.nil)) (Tree.words (List.getD (Tree.kids t) (Int.toNat x19) Tree.nil)) (Tree.kids (List.getD (Tree.kids t) (Int.toNat x19) Tree.nil))))))]).length) * 56 ≤ 140737488355328) ∧ ((InR ((x19 : Int) + 1)) ∧ (N0 (head72_0 t ((x19 : Int) + 1) (ml3_2 ++ ([(Tree.mk (Tree.kind (normT (Tree.mk (Tree.kind (List.getD (Tree.kids t) (Int.toNat x19) Tree.nil)) (Tree.words (List.getD (Tree.kids t) (Int.toNat x19) Tree.nil)) (Tree.kids (List.getD (Tree.kids t) (Int.toNat x19) Tree.nil))))) (Tree.words (normT (Tree.mk (Tree.kind (List.getD (Tree.kids t) (Int.toNat x19) Tree.nil)) (Tree.words (List.getD (Tree.kids t) (Int.toNat x19) Tree.nil)) (Tree.kids (List.getD (Tree.kids t) (Int.toNat x19) Tree.nil))))) (Tree.kids (normT (Tree.mk (Tree.kind (List.getD (Tree.kids t) (Int.toNat x19) Tree.nil)) (Tree.words (List.getD (Tree.kids t) (Int.toNat x19) Tree.nil)) (Tree.kids (List.getD (Tree.kids t) (Int.toNat x19) Tree.nil))))))]))))))) ∧ ((decide ((x19 : Int) < ((Tree.kids t).length : Int))) = false → (((((Tree.kind t) : Int) == 1) = true → LoopWp (awp cfg (know (know72 N)) (drawOk cfg (know (know72 N))) Try.f72.ntmps lv72 (cd Try.f72 [1, 1, 1, 1, 0, 1, 0, 0, 0, 0])) (head72_1 t ml3_2 (Tree.words t)) (AExit.inBlock 2 (seqK cfg (know (know72 N)) (drawOk cfg (know (know72 N))) Try.f72.ntmps lv72 (cd Try.f72 [1, 1, 1, 1, 0, 1, 0, 1]) (seqK cfg (know (know72 N)) (drawOk cfg (know (know72 N))) Try.f72.ntmps lv72 (cd Try.f72 [1, 1, 1, 1, 1]) Q)))) ∧ ((((Tree.kind t) : Int) == 1) = false → (Q .ret (⟨[(2, .ptr (.loc 2) 0)], [((.loc 2), [.int .i64 (Tree.kind t), .slice (U := U) .u64 (Tree.words t) .unk, .slice (U := U) .tree ml3_2 .unk])], []⟩ : LSt U))))))) :
    awp cfg (know (know72 N)) (drawOk cfg (know (know72 N))) Try.f72.ntmps lv72 (cd Try.f72 [1, 1, 1, 0, 1, 0, 0]) (head72_0 t x19 ml3_2) (AExit.then N0 (AExit.inBlock 0 (seqK cfg (know (know72 N)) (drawOk cfg (know (know72 N))) Try.f72.ntmps lv72 (cd Try.f72 [1, 1, 1, 1]) Q))) := by
  have e : (awp cfg (know (know72 N)) (drawOk cfg (know (know72 N))) Try.f72.ntmps lv72 (cd Try.f72 [1, 1, 1, 0, 1, 0, 0]) (head72_0 t x19 ml3_2) (AExit.then N0 (AExit.inBlock 0 (seqK cfg (know (know72 N)) (drawOk cfg (know (know72 N))) Try.f72.ntmps lv72 (cd Try.f72 [1, 1, 1, 1]) Q)))) = ((((decide ((x19 : Int) < ((Tree.kids t).length : Int))) = true → (0 ≤ x19 ∧ x19 < ((Tree.kids t).length : Int)) ∧ ((pre72 ((Tree.mk (Tree.kind (List.getD (Tree.kids t) (Int.toNat x19) Tree.nil)) (Tree.words (List.getD (Tree.kids t) (Int.toNat x19) Tree.nil)) (Tree.kids (List.getD (Tree.kids t) (Int.toNat x19) Tree.nil))), ())) ∧ (mu72 ((Tree.mk (Tree.kind (List.getD (Tree.kids t) (Int.toNat x19) Tree.nil)) (Tree.words (List.getD (Tree.kids t) (Int.toNat x19) Tree.nil)) (Tree.kids (List.getD (Tree.kids t) (Int.toNat x19) Tree.nil))), ()) < N) ∧ ((ml3_2.length + ([(Tree.mk (Tree.kind (normT (Tree.mk (Tree.kind (List.getD (Tree.kids t) (Int.toNat x19) Tree.nil)) (Tree.words (List.getD (Tree.kids t) (Int.toNat x19) Tree.nil)) (Tree.kids (List.getD (Tree.kids t) (Int.toNat x19) Tree.nil))))) (Tree.words (normT (Tree.mk (Tree.kind (List.getD (Tree.kids t) (Int.toNat x19) Tree.nil)) (Tree.words (List.getD (Tree.kids t) (Int.toNat x19) Tree.nil)) (Tree.kids (List.getD (Tree.kids t) (Int.toNat x19) Tree.nil))))) (Tree.kids (normT (Tree.mk (Tree.kind (List.getD (Tree.kids t) (Int.toNat x19) Tree.nil)) (Tree.words (List.getD (Tree.kids t) (Int.toNat x19) Tree.nil)) (Tree.kids (List.getD (Tree.kids t) (Int.toNat x19) Tree.nil))))))]).length) * 56 ≤ 140737488355328) ∧ ((InR ((x19 : Int) + 1)) ∧ (N0 (head72_0 t ((x19 : Int) + 1) (ml3_2 ++ ([(Tree.mk (Tree.kind (normT (Tree.mk (Tree.kind (List.getD (Tree.kids t) (Int.toNat x19) Tree.nil)) (Tree.words (List.getD (Tree.kids t) (Int.toNat x19) Tree.nil)) (Tree.kids (List.getD (Tree.kids t) (Int.toNat x19) Tree.nil))))) (Tree.words (normT (Tree.mk (Tree.kind (List.getD (Tree.kids t) (Int.toNat x19) Tree.nil)) (Tree.words (List.getD (Tree.kids t) (Int.toNat x19) Tree.nil)) (Tree.kids (List.getD (Tree.kids t) (Int.toNat x19) Tree.nil))))) (Tree.kids (normT (Tree.mk (Tree.kind (List.getD (Tree.kids t) (Int.toNat x19) Tree.nil)) (Tree.words (List.getD (Tree.kids t) (Int.toNat x19) Tree.nil)) (Tree.kids (List.getD (Tree.kids t) (Int.toNat x19) Tree.nil))))))]))))))) ∧ ((decide ((x19 : Int) < ((Tree.kids t).length : Int))) = false → (((((Tree.kind t) : Int) == 1) = true → LoopWp (awp cfg (know (know72 N)) (drawOk cfg (know (know72 N))) Try.f72.ntmps lv72 (cd Try.f72 [1, 1, 1, 1, 0, 1, 0, 0, 0, 0])) (head72_1 t ml3_2 (Tree.words t)) (AExit.inBlock 2 (seqK cfg (know (know72 N)) (drawOk cfg (know (know72 N))) Try.f72.ntmps lv72 (cd Try.f72 [1, 1, 1, 1, 0, 1, 0, 1]) (seqK cfg (know (know72 N)) (drawOk cfg (know (know72 N))) Try.f72.ntmps lv72 (cd Try.f72 [1, 1, 1, 1, 1]) Q)))) ∧ ((((Tree.kind t) : Int) == 1) = false → (Q .ret (⟨[(2, .ptr (.loc 2) 0)], [((.loc 2), [.int .i64 (Tree.kind t), .slice (U := U) .u64 (Tree.words t) .unk, .slice (U := U) .tree ml3_2 .unk])], []⟩ : LSt U))))))) := by kernel_rfl
  exact e.mpr h
theorem vc72_l1 (N : Nat) (t : Tree) (ml3_2 : List Tree) (ml3_1_a : List Int) (N1 : LSt U → Prop) (Q : AExit → LSt U → Prop) (h : ((decide ((0 : Int) < (ml3_1_a.length : Int))) = true → (decide ((0 : Int) < (ml3_1_a.length : Int))) = true) ∧ ((decide ((0 : Int) < (ml3_1_a.length : Int))) = true → (decide ((0 : Int) < (ml3_1_a.length : Int))) = true) ∧ ((decide ((0 : Int) < (ml3_1_a.length : Int))) = true → (decide ((0 : Int) < (ml3_1_a.length : Int))) = true) ∧ ((decide ((0 : Int) < (ml3_1_a.length : Int))) = true → (decide ((0 : Int) < (ml3_1_a.length : Int))) = true) ∧ ((decide ((0 : Int) < (ml3_1_a.length : Int))) = true → InR (((ml3_1_a.length : Int) : Int) - 1)) ∧ ((decide ((0 : Int) < (ml3_1_a.length : Int))) = true → (decide ((0 : Int) < (ml3_1_a.length : Int))) = true) ∧ ((decide ((0 : Int) < (ml3_1_a.length : Int))) = true → (decide ((0 : Int) < (ml3_1_a.length : Int))) = true) ∧ ((decide ((0 : Int) < (ml3_1_a.length : Int))) = true → 0 ≤ (((ml3_1_a.length : Int) : Int) - 1) ∧ (((ml3_1_a.length : Int) : Int) - 1) < (ml3_1_a.length : Int)) ∧ ((decide ((0 : Int) < (ml3_1_a.length : Int))) = true → (decide ((0 : Int) < (ml3_1_a.length : Int))) = true) ∧ ((decide ((0 : Int) < (ml3_1_a.length : Int))) = true → (decide ((0 : Int) < (ml3_1_a.length : Int))) = true) ∧ (((decide ((0 : Int) < (ml3_1_a.length : Int))) = true → (decide ((0 : Int) < (ml3_1_a.length : Int))) = true)) ∧ (((bif (decide ((0 : Int) < (ml3_1_a.length : Int))) then (((List.getD ml3_1_a (Int.toNat (((ml3_1_a.length : Int) : Int) - 1)) (0 : Int)) : Int) == 0) else false) = true → (InR (((ml3_1_a.length : Int) : Int) - 1)) ∧ (0 ≤ (((ml3_1_a.length : Int) : Int) - 1) ∧ (((ml3_1_a.length : Int) : Int) - 1) ≤ (ml3_1_a.length : Int)) ∧ (N1 (head72_1 t ml3_2 (List.take (Int.toNat (((ml3_1_a.length : Int) : Int) - 1)) ml3_1_a)))) ∧ ((bif (decide ((0 : Int) < (ml3_1_a.length : Int))) then (((List.getD ml3_1_a (Int.toNat (((ml3_1_a.length : Int) : Int) - 1)) (0 : Int)) : Int) == 0) else false) = false → LoopWp (awp cfg (know (know72 N)) (drawOk cfg (know (know72 N))) Try.f72.ntmps lv72 (cd Try.f72 [1, 1, 1, 1, 0, 1, 0, 1, 0, 0])) (head72_2 t ml3_1_a ml3_2) (AExit.inBlock 4 (seqK cfg (know (know72 N)) (drawOk cfg (know (know72 N))) Try.f72.ntmps lv72 (cd Try.f72 [1, 1, 1, 1, 1]) Q))))) :
    awp cfg (know (know72 N)) (drawOk cfg (know (know72 N))) Try.f72.ntmps lv72 (cd Try.f72 [1, 1, 1, 1, 0, 1, 0, 0, 0, 0]) (head72_1 t ml3_2 ml3_1_a) (AExit.then N1 (AExit.inBlock 2 (seqK cfg (know (know72 N)) (drawOk cfg (know (know72 N))) Try.f72.ntmps lv72 (cd Try.f72 [1, 1, 1, 1, 0, 1, 0, 1]) (seqK cfg (know (know72 N)) (drawOk cfg (know (know72 N))) Try.f72.ntmps lv72 (cd Try.f72 [1, 1, 1, 1, 1]) Q)))) := by
  have e : (awp cfg (know (know72 N)) (drawOk cfg (know (know72 N))) Try.f72.ntmps lv72 (cd Try.f72 [1, 1, 1, 1, 0, 1, 0, 0, 0, 0]) (head72_1 t ml3_2 ml3_1_a) (AExit.then N1 (AExit.inBlock 2 (seqK cfg (know (know72 N)) (drawOk cfg (know (know72 N))) Try.f72.ntmps lv72 (cd Try.f72 [1, 1, 1, 1, 0, 1, 0, 1]) (seqK cfg (know (know72 N)) (drawOk cfg (know (know72 N))) Try.f72.ntmps lv72 (cd Try.f72 [1, 1, 1, 1, 1]) Q))))) = (((decide ((0 : Int) < (ml3_1_a.length : Int))) = true → (decide ((0 : Int) < (ml3_1_a.length : Int))) = true) ∧ ((decide ((0 : Int) < (ml3_1_a.length : Int))) = true → (decide ((0 : Int) < (ml3_1_a.length : Int))) = true) ∧ ((decide ((0 : Int) < (ml3_1_a.length : Int))) = true → (decide ((0 : Int) < (ml3_1_a.length : Int))) = true) ∧ ((decide ((0 : Int) < (ml3_1_a.length : Int))) = true → (decide ((0 : Int) < (ml3_1_a.length : Int))) = true) ∧ ((decide ((0 : Int) < (ml3_1_a.length : Int))) = true → InR (((ml3_1_a.length : Int) : Int) - 1)) ∧ ((decide ((0 : Int) < (ml3_1_a.length : Int))) = true → (decide ((0 : Int) < (ml3_1_a.length : Int))) = true) ∧ ((decide ((0 : Int) < (ml3_1_a.length : Int))) = true → (decide ((0 : Int) < (ml3_1_a.length : Int))) = true) ∧ ((decide ((0 : Int) < (ml3_1_a.length : Int))) = true → 0 ≤ (((ml3_1_a.length : Int) : Int) - 1) ∧ (((ml3_1_a.length : Int) : Int) - 1) < (ml3_1_a.length : Int)) ∧ ((decide ((0 : Int) < (ml3_1_a.length : Int))) = true → (decide ((0 : Int) < (ml3_1_a.length : Int))) = true) ∧ ((decide ((0 : Int) < (ml3_1_a.length : Int))) = true → (decide ((0 : Int) < (ml3_1_a.length : Int))) = true) ∧ (((decide ((0 : Int) < (ml3_1_a.length : Int))) = true → (decide ((0 : Int) < (ml3_1_a.length : Int))) = true)) ∧ (((bif (decide ((0 : Int) < (ml3_1_a.length : Int))) then (((List.getD ml3_1_a (Int.toNat (((ml3_1_a.length : Int) : Int) - 1)) (0 : Int)) : Int) == 0) else false) = true → (InR (((ml3_1_a.length : Int) : Int) - 1)) ∧ (0 ≤ (((ml3_1_a.length : Int) : Int) - 1) ∧ (((ml3_1_a.length : Int) : Int) - 1) ≤ (ml3_1_a.length : Int)) ∧ (N1 (head72_1 t ml3_2 (List.take (Int.toNat (((ml3_1_a.length : Int) : Int) - 1)) ml3_1_a)))) ∧ ((bif (decide ((0 : Int) < (ml3_1_a.length : Int))) then (((List.getD ml3_1_a (Int.toNat (((ml3_1_a.length : Int) : Int) - 1)) (0 : Int)) : Int) == 0) else false) = false → LoopWp (awp cfg (know (know72 N)) (drawOk cfg (know (know72 N))) Try.f72.ntmps lv72 (cd Try.f72 [1, 1, 1, 1, 0, 1, 0, 1, 0, 0])) (head72_2 t ml3_1_a ml3_2) (AExit.inBlock 4 (seqK cfg (know (know72 N)) (drawOk cfg (know (know72 N))) Try.f72.ntmps lv72 (cd Try.f72 [1, 1, 1, 1, 1]) Q))))) := by kernel_rfl
  exact e.mpr h
theorem vc72_l2 (N : Nat) (t : Tree) (ml3_1_a : List Int) (ml3_2_b : List Tree) (N2 : LSt U → Prop) (Q : AExit → LSt U → Prop) (h : ((decide ((0 : Int) < (ml3_2_b.length : Int))) = true → (decide ((0 : Int) < (ml3_2_b.length : Int))) = true) ∧ ((decide ((0 : Int) < (ml3_2_b.length : Int))) = true → (decide ((0 : Int) < (ml3_2_b.length : Int))) = true) ∧ ((decide ((0 : Int) < (ml3_2_b.length : Int))) = true → (decide ((0 : Int) < (ml3_2_b.length : Int))) = true) ∧ ((decide ((0 : Int) < (ml3_2_b.length : Int))) = true → (decide ((0 : Int) < (ml3_2_b.length : Int))) = true) ∧ ((decide ((0 : Int) < (ml3_2_b.length : Int))) = true → InR (((ml3_2_b.length : Int) : Int) - 1)) ∧ ((decide ((0 : Int) < (ml3_2_b.length : Int))) = true → (decide ((0 : Int) < (ml3_2_b.length : Int))) = true) ∧ ((decide ((0 : Int) < (ml3_2_b.length : Int))) = true → (decide ((0 : Int) < (ml3_2_b.length : Int))) = true) ∧ ((decide ((0 : Int) < (ml3_2_b.length : Int))) = true → 0 ≤ (((ml3_2_b.length : Int) : Int) - 1) ∧ (((ml3_2_b.length : Int) : Int) - 1) < (ml3_2_b.length : Int)) ∧ ((decide ((0 : Int) < (ml3_2_b.length : Int))) = true → (decide ((0 : Int) < (ml3_2_b.length : Int))) = true) ∧ ((decide ((0 : Int) < (ml3_2_b.length : Int))) = true → (decide ((0 : Int) < (ml3_2_b.length : Int))) = true) ∧ ((decide ((0 : Int) < (ml3_2_b.length : Int))) = true → (decide ((0 : Int) < (ml3_2_b.length : Int))) = true) ∧ (((decide ((0 : Int) < (ml3_2_b.length : Int))) = true → (decide ((0 : Int) < (ml3_2_b.length : Int))) = true)) ∧ (((bif (decide ((0 : Int) < (ml3_2_b.length : Int))) then (((Tree.kind (List.getD ml3_2_b (Int.toNat (((ml3_2_b.length : Int) : Int) - 1)) Tree.nil)) : Int) == 0) else false) = true → (InR (((ml3_2_b.length : Int) : Int) - 1)) ∧ (0 ≤ (((ml3_2_b.length : Int) : Int) - 1) ∧ (((ml3_2_b.length : Int) : Int) - 1) ≤ (ml3_2_b.length : Int)) ∧ (N2 (head72_2 t ml3_1_a (List.take (Int.toNat (((ml3_2_b.length : Int) : Int) - 1)) ml3_2_b)))) ∧ ((bif (decide ((0 : Int) < (ml3_2_b.length : Int))) then (((Tree.kind (List.getD ml3_2_b (Int.toNat (((ml3_2_b.length : Int) : Int) - 1)) Tree.nil)) : Int) == 0) else false) = false → (Q .ret (⟨[(2, .ptr (.loc 2) 0)], [((.loc 2), [.int .i64 (Tree.kind t), .slice (U := U) .u64 ml3_1_a .unk, .slice (U := U) .tree ml3_2_b .unk])], []⟩ : LSt U))))) :
    awp cfg (know (know72 N)) (drawOk cfg (know (know72 N))) Try.f72.ntmps lv72 (cd Try.f72 [1, 1, 1, 1, 0, 1, 0, 1, 0, 0]) (head72_2 t ml3_1_a ml3_2_b) (AExit.then N2 (AExit.inBlock 4 (seqK cfg (know (know72 N)) (drawOk cfg (know (know72 N))) Try.f72.ntmps lv72 (cd Try.f72 [1, 1, 1, 1, 1]) Q))) := by
  have e : (awp cfg (know (know72 N)) (drawOk cfg (know (know72 N))) Try.f72.ntmps lv72 (cd Try.f72 [1, 1, 1, 1, 0, 1, 0, 1, 0, 0]) (head72_2 t ml3_1_a ml3_2_b) (AExit.then N2 (AExit.inBlock 4 (seqK cfg (know (know72 N)) (drawOk cfg (know (know72 N))) Try.f72.ntmps lv72 (cd Try.f72 [1, 1, 1, 1, 1]) Q)))) = (((decide ((0 : Int) < (ml3_2_b.length : Int))) = true → (decide ((0 : Int) < (ml3_2_b.length : Int))) = true) ∧ ((decide ((0 : Int) < (ml3_2_b.length : Int))) = true → (decide ((0 : Int) < (ml3_2_b.length : Int))) = true) ∧ ((decide ((0 : Int) < (ml3_2_b.length : Int))) = true → (decide ((0 : Int) < (ml3_2_b.length : Int))) = true) ∧ ((decide ((0 : Int) < (ml3_2_b.length : Int))) = true → (decide ((0 : Int) < (ml3_2_b.length : Int))) = true) ∧ ((decide ((0 : Int) < (ml3_2_b.length : Int))) = true → InR (((ml3_2_b.length : Int) : Int) - 1)) ∧ ((decide ((0 : Int) < (ml3_2_b.length : Int))) = true → (decide ((0 : Int) < (ml3_2_b.length : Int))) = true) ∧ ((decide ((0 : Int) < (ml3_2_b.length : Int))) = true → (decide ((0 : Int) < (ml3_2_b.length : Int))) = true) ∧ ((decide ((0 : Int) < (ml3_2_b.length : Int))) = true → 0 ≤ (((ml3_2_b.length : Int) : Int) - 1) ∧ (((ml3_2_b.length : Int) : Int) - 1) < (ml3_2_b.length : Int)) ∧ ((decide ((0 : Int) < (ml3_2_b.length : Int))) = true → (decide ((0 : Int) < (ml3_2_b.length : Int))) = true) ∧ ((decide ((0 : Int) < (ml3_2_b.length : Int))) = true → (decide ((0 : Int) < (ml3_2_b.length : Int))) = true) ∧ ((decide ((0 : Int) < (ml3_2_b.length : Int))) = true → (decide ((0 : Int) < (ml3_2_b.length : Int))) = true) ∧ (((decide ((0 : Int) < (ml3_2_b.length : Int))) = true → (decide ((0 : Int) < (ml3_2_b.length : Int))) = true)) ∧ (((bif (decide ((0 : Int) < (ml3_2_b.length : Int))) then (((Tree.kind (List.getD ml3_2_b (Int.toNat (((ml3_2_b.length : Int) : Int) - 1)) Tree.nil)) : Int) == 0) else false) = true → (InR (((ml3_2_b.length : Int) : Int) - 1)) ∧ (0 ≤ (((ml3_2_b.length : Int) : Int) - 1) ∧ (((ml3_2_b.length : Int) : Int) - 1) ≤ (ml3_2_b.length : Int)) ∧ (N2 (head72_2 t ml3_1_a (List.take (Int.toNat (((ml3_2_b.length : Int) : Int) - 1)) ml3_2_b)))) ∧ ((bif (decide ((0 : Int) < (ml3_2_b.length : Int))) then (((Tree.kind (List.getD ml3_2_b (Int.toNat (((ml3_2_b.length : Int) : Int) - 1)) Tree.nil)) : Int) == 0) else false) = false → (Q .ret (⟨[(2, .ptr (.loc 2) 0)], [((.loc 2), [.int .i64 (Tree.kind t), .slice (U := U) .u64 ml3_1_a .unk, .slice (U := U) .tree ml3_2_b .unk])], []⟩ : LSt U))))) := by kernel_rfl
  exact e.mpr h
def Body72 (N : Nat) (t : Tree)  : Prop := awp cfg (know (know72 N)) (drawOk cfg (know (know72 N))) Try.f72.ntmps lv72 (cd Try.f72 []) (entry (args72.can (t, ())) []) (EndsQ cfg Try.f72.ntmps Try.f72.results.toList (res72 (t, ())) [])
theorem make72 (c60 : Contract Try.prog cfg 60 spec60) (hb : ∀ (N : Nat) (t : Tree) (_ : Unit), pre72 (t, ()) → mu72 (t, ()) < N + 1 → Body72 N t) : Contract Try.prog cfg 72 spec72 :=
  contract_rec (μ := mu72) (l := [(60, spec60)]) cfgOk rfl (⟨c60, trivial⟩) lv72 Try.func72 rfl rfl 1 (fun _ => rfl) (by decide) (fun N ⟨t, _⟩ => hb N t ())

noncomputable def know49 (N : Nat) : List (FuncId × Fs U) := (49, fs args49 (fun a => [pre49 a, mu49 a < N]) res49) :: [(37, spec37)]
def lv49 : Lives U := fun i => match i with
  | 0 => ([(2, []), (3, [])], [((.loc 2), []), ((.loc 3), [])])
  | 1 => ([(2, []), (3, []), (27, [])], [((.loc 2), []), ((.loc 3), [])])
  | 2 => ([(4, [])], [])
  | 3 => ([(2, []), (3, []), (5, [])], [((.loc 2), []), ((.loc 3), [])])
  | 4 => ([(2, []), (3, []), (5, []), (32, [])], [((.loc 2), []), ((.loc 3), [])])
  | 5 => ([(2, []), (3, []), (5, [])], [((.loc 2), []), ((.loc 3), [])])
  | 6 => ([(2, []), (3, []), (5, []), (46, [])], [((.loc 2), []), ((.loc 3), [])])
  | 7 => ([(4, [])], [])
  | 8 => ([(4, [])], [])
  | _ => ([], [])
def head49_0 (a : Tree) (b : Tree) (x5 : Int) : LSt U := (⟨[(2, .ptr (.loc 2) 0), (3, .ptr (.loc 3) 0), (5, .c (.int .i64 x5))], [((.loc 2), [.int .i64 (Tree.kind a), .slice (U := U) .u64 (Tree.words a) .unk, .slice (U := U) .tree (Tree.kids a) .unk]), ((.loc 3), [.int .i64 (Tree.kind b), .slice (U := U) .u64 (Tree.words b) .unk, .slice (U := U) .tree (Tree.kids b) .unk])], []⟩ : LSt U)
theorem vc49 (N : Nat) (a : Tree) (b : Tree) (Q : AExit → LSt U → Prop) (h : (((!(((Tree.kind a) : Int) != (Tree.kind b))) = true → (!(((Tree.kind a) : Int) != (Tree.kind b))) = true) ∧ ((!(((Tree.kind a) : Int) != (Tree.kind b))) = true → (!(((Tree.kind a) : Int) != (Tree.kind b))) = true) ∧ ((!(((Tree.kind a) : Int) != (Tree.kind b))) = true → (!(((Tree.kind a) : Int) != (Tree.kind b))) = true) ∧ ((!(((Tree.kind a) : Int) != (Tree.kind b))) = true → (!(((Tree.kind a) : Int) != (Tree.kind b))) = true) ∧ ((!(((Tree.kind a) : Int) != (Tree.kind b))) = true → pre37 ((Tree.words a), (Tree.words b), ())) ∧ ((!(((Tree.kind a) : Int) != (Tree.kind b))) = true → (!(((Tree.kind a) : Int) != (Tree.kind b))) = true) ∧ (((((Tree.kind a) : Int) != (Tree.kind b)) = false → (!(((Tree.kind a) : Int) != (Tree.kind b))) = true)) ∧ ((!(bif (((Tree.kind a) : Int) != (Tree.kind b)) then true else (!(decide ((Tree.words a) = (Tree.words b)))))) = true → (!(bif (((Tree.kind a) : Int) != (Tree.kind b)) then true else (!(decide ((Tree.words a) = (Tree.words b)))))) = true) ∧ ((!(bif (((Tree.kind a) : Int) != (Tree.kind b)) then true else (!(decide ((Tree.words a) = (Tree.words b)))))) = true → (!(bif (((Tree.kind a) : Int) != (Tree.kind b)) then true else (!(decide ((Tree.words a) = (Tree.words b)))))) = true) ∧ ((!(bif (((Tree.kind a) : Int) != (Tree.kind b)) then true else (!(decide ((Tree.words a) = (Tree.words b)))))) = true → (!(bif (((Tree.kind a) : Int) != (Tree.kind b)) then true else (!(decide ((Tree.words a) = (Tree.words b)))))) = true) ∧ ((!(bif (((Tree.kind a) : Int) != (Tree.kind b)) then true else (!(decide ((Tree.words a) = (Tree.words b)))))) = true → (!(bif (((Tree.kind a) : Int) != (Tree.kind b)) then true else (!(decide ((Tree.words a) = (Tree.words b)))))) = true) ∧ ((!(bif (((Tree.kind a) : Int) != (Tree.kind b)) then true else (!(decide ((Tree.words a) = (Tree.words b)))))) = true → (!(bif (((Tree.kind a) : Int) != (Tree.kind b)) then true else (!(decide ((Tree.words a) = (Tree.words b)))))) = true) ∧ ((!(bif (((Tree.kind a) : Int) != (Tree.kind b)) then true else (!(decide ((Tree.words a) = (Tree.words b)))))) = true → (!(bif (((Tree.kind a) : Int) != (Tree.kind b)) then true else (!(decide ((Tree.words a) = (Tree.words b)))))) = true) ∧ (((bif (((Tree.kind a) : Int) != (Tree.kind b)) then true else (!(decide ((Tree.words a) = (Tree.words b))))) = false → (!(bif (((Tree.kind a) : Int) != (Tree.kind b)) then true else (!(decide ((Tree.words a) = (Tree.words b)))))) = true)) ∧ (((bif (bif (((Tree.kind a) : Int) != (Tree.kind b)) then true else (!(decide ((Tree.words a) = (Tree.words b))))) then true else ((((Tree.kids a).length : Int) : Int) != ((Tree.kids b).length : Int))) = true → (Q .ret (⟨[(4, .c (.bool false))], [], []⟩ : LSt U))) ∧ ((bif (bif (((Tree.kind a) : Int) != (Tree.kind b)) then true else (!(decide ((Tree.words a) = (Tree.words b))))) then true else ((((Tree.kids a).length : Int) : Int) != ((Tree.kids b).length : Int))) = false → (LoopWp (awp cfg (know (know49 N)) (drawOk cfg (know (know49 N))) Try.f49.ntmps lv49 (cd Try.f49 [1, 1, 0, 1, 0, 0])) (head49_0 a b 0) (AExit.inBlock 0 (seqK cfg (know (know49 N)) (drawOk cfg (know (know49 N))) Try.f49.ntmps lv49 (cd Try.f49 [1, 1, 1]) Q))))))) :
    awp cfg (know (know49 N)) (drawOk cfg (know (know49 N))) Try.f49.ntmps lv49 (cd Try.f49 []) (⟨[(0, .agg [.int .i64 (Tree.kind a), .slice (U := U) .u64 (Tree.words a) .unk, .slice (U := U) .tree (Tree.kids a) .unk]), (1, .agg [.int .i64 (Tree.kind b), .slice (U := U) .u64 (Tree.words b) .unk, .slice (U := U) .tree (Tree.kids b) .unk])], [], []⟩ : LSt U) Q := by
  have e : (awp cfg (know (know49 N)) (drawOk cfg (know (know49 N))) Try.f49.ntmps lv49 (cd Try.f49 []) (⟨[(0, .agg [.int .i64 (Tree.kind a), .slice (U := U) .u64 (Tree.words a) .unk, .slice (U := U) .tree (Tree.kids a) .unk]), (1, .agg [.int .i64 (Tree.kind b), .slice (U := U) .u64 (Tree.words b) .unk, .slice (U := U) .tree (Tree.kids b) .unk])], [], []⟩ : LSt U) Q) = ((((!(((Tree.kind a) : Int) != (Tree.kind b))) = true → (!(((Tree.kind a) : Int) != (Tree.kind b))) = true) ∧ ((!(((Tree.kind a) : Int) != (Tree.kind b))) = true → (!(((Tree.kind a) : Int) != (Tree.kind b))) = true) ∧ ((!(((Tree.kind a) : Int) != (Tree.kind b))) = true → (!(((Tree.kind a) : Int) != (Tree.kind b))) = true) ∧ ((!(((Tree.kind a) : Int) != (Tree.kind b))) = true → (!(((Tree.kind a) : Int) != (Tree.kind b))) = true) ∧ ((!(((Tree.kind a) : Int) != (Tree.kind b))) = true → pre37 ((Tree.words a), (Tree.words b), ())) ∧ ((!(((Tree.kind a) : Int) != (Tree.kind b))) = true → (!(((Tree.kind a) : Int) != (Tree.kind b))) = true) ∧ (((((Tree.kind a) : Int) != (Tree.kind b)) = false → (!(((Tree.kind a) : Int) != (Tree.kind b))) = true)) ∧ ((!(bif (((Tree.kind a) : Int) != (Tree.kind b)) then true else (!(decide ((Tree.words a) = (Tree.words b)))))) = true → (!(bif (((Tree.kind a) : Int) != (Tree.kind b)) then true else (!(decide ((Tree.words a) = (Tree.words b)))))) = true) ∧ ((!(bif (((Tree.kind a) : Int) != (Tree.kind b)) then true else (!(decide ((Tree.words a) = (Tree.words b)))))) = true → (!(bif (((Tree.kind a) : Int) != (Tree.kind b)) then true else (!(decide ((Tree.words a) = (Tree.words b)))))) = true) ∧ ((!(bif (((Tree.kind a) : Int) != (Tree.kind b)) then true else (!(decide ((Tree.words a) = (Tree.words b)))))) = true → (!(bif (((Tree.kind a) : Int) != (Tree.kind b)) then true else (!(decide ((Tree.words a) = (Tree.words b)))))) = true) ∧ ((!(bif (((Tree.kind a) : Int) != (Tree.kind b)) then true else (!(decide ((Tree.words a) = (Tree.words b)))))) = true → (!(bif (((Tree.kind a) : Int) != (Tree.kind b)) then true else (!(decide ((Tree.words a) = (Tree.words b)))))) = true) ∧ ((!(bif (((Tree.kind a) : Int) != (Tree.kind b)) then true else (!(decide ((Tree.words a) = (Tree.words b)))))) = true → (!(bif (((Tree.kind a) : Int) != (Tree.kind b)) then true else (!(decide ((Tree.words a) = (Tree.words b)))))) = true) ∧ ((!(bif (((Tree.kind a) : Int) != (Tree.kind b)) then true else (!(decide ((Tree.words a) = (Tree.words b)))))) = true → (!(bif (((Tree.kind a) : Int) != (Tree.kind b)) then true else (!(decide ((Tree.words a) = (Tree.words b)))))) = true) ∧ (((bif (((Tree.kind a) : Int) != (Tree.kind b)) then true else (!(decide ((Tree.words a) = (Tree.words b))))) = false → (!(bif (((Tree.kind a) : Int) != (Tree.kind b)) then true else (!(decide ((Tree.words a) = (Tree.words b)))))) = true)) ∧ (((bif (bif (((Tree.kind a) : Int) != (Tree.kind b)) then true else (!(decide ((Tree.words a) = (Tree.words b))))) then true else ((((Tree.kids a).length : Int) : Int) != ((Tree.kids b).length : Int))) = true → (Q .ret (⟨[(4, .c (.bool false))], [], []⟩ : LSt U))) ∧ ((bif (bif (((Tree.kind a) : Int) != (Tree.kind b)) then true else (!(decide ((Tree.words a) = (Tree.words b))))) then true else ((((Tree.kids a).length : Int) : Int) != ((Tree.kids b).length : Int))) = false → (LoopWp (awp cfg (know (know49 N)) (drawOk cfg (know (know49 N))) Try.f49.ntmps lv49 (cd Try.f49 [1, 1, 0, 1, 0, 0])) (head49_0 a b 0) (AExit.inBlock 0 (seqK cfg (know (know49 N)) (drawOk cfg (know (know49 N))) Try.f49.ntmps lv49 (cd Try.f49 [1, 1, 1]) Q))))))) := by kernel_rfl
  exact e.mpr h
theorem vc49_l0 (N : Nat) (a : Tree) (b : Tree) (x5 : Int) (N0 : LSt U → Prop) (Q : AExit → LSt U → Prop) (h : (((decide ((x5 : Int) < ((Tree.kids a).length : Int))) = true → (0 ≤ x5 ∧ x5 < ((Tree.kids a).length : Int)) ∧ (0 ≤ x5 ∧ x5 < ((Tree.kids b).length : Int)) ∧ (pre49 ((Tree.mk (Tree.kind (List.getD (Tree.kids a) (Int.toNat x5) Tree.nil)) (Tree.words (List.getD (Tree.kids a) (Int.toNat x5) Tree.nil)) (Tree.kids (List.getD (Tree.kids a) (Int.toNat x5) Tree.nil))), (Tree.mk (Tree.kind (List.getD (Tree.kids b) (Int.toNat x5) Tree.nil)) (Tree.words (List.getD (Tree.kids b) (Int.toNat x5) Tree.nil)) (Tree.kids (List.getD (Tree.kids b) (Int.toNat x5) Tree.nil))), ())) ∧ (mu49 ((Tree.mk (Tree.kind (List.getD (Tree.kids a) (Int.toNat x5) Tree.nil)) (Tree.words (List.getD (Tree.kids a) (Int.toNat x5) Tree.nil)) (Tree.kids (List.getD (Tree.kids a) (Int.toNat x5) Tree.nil))), (Tree.mk (Tree.kind (List.getD (Tree.kids b) (Int.toNat x5) Tree.nil)) (Tree.words (List.getD (Tree.kids b) (Int.toNat x5) Tree.nil)) (Tree.kids (List.getD (Tree.kids b) (Int.toNat x5) Tree.nil))), ()) < N) ∧ (((!(sameT (Tree.mk (Tree.kind (List.getD (Tree.kids a) (Int.toNat x5) Tree.nil)) (Tree.words (List.getD (Tree.kids a) (Int.toNat x5) Tree.nil)) (Tree.kids (List.getD (Tree.kids a) (Int.toNat x5) Tree.nil))) (Tree.mk (Tree.kind (List.getD (Tree.kids b) (Int.toNat x5) Tree.nil)) (Tree.words (List.getD (Tree.kids b) (Int.toNat x5) Tree.nil)) (Tree.kids (List.getD (Tree.kids b) (Int.toNat x5) Tree.nil))))) = true → (Q .ret (⟨[(4, .c (.bool false))], [], []⟩ : LSt U))) ∧ ((!(sameT (Tree.mk (Tree.kind (List.getD (Tree.kids a) (Int.toNat x5) Tree.nil)) (Tree.words (List.getD (Tree.kids a) (Int.toNat x5) Tree.nil)) (Tree.kids (List.getD (Tree.kids a) (Int.toNat x5) Tree.nil))) (Tree.mk (Tree.kind (List.getD (Tree.kids b) (Int.toNat x5) Tree.nil)) (Tree.words (List.getD (Tree.kids b) (Int.toNat x5) Tree.nil)) (Tree.kids (List.getD (Tree.kids b) (Int.toNat x5) Tree.nil))))) = false → (InR ((x5 : Int) + 1)) ∧ (N0 (head49_0 a b ((x5 : Int) + 1)))))) ∧ ((decide ((x5 : Int) < ((Tree.kids a).length : Int))) = false → (Q .ret (⟨[(4, .c (.bool true))], [], []⟩ : LSt U))))) :
    awp cfg (know (know49 N)) (drawOk cfg (know (know49 N))) Try.f49.ntmps lv49 (cd Try.f49 [1, 1, 0, 1, 0, 0]) (head49_0 a b x5) (AExit.then N0 (AExit.inBlock 0 (seqK cfg (know (know49 N)) (drawOk cfg (know (know49 N))) Try.f49.ntmps lv49 (cd Try.f49 [1, 1, 1]) Q))) := by
  have e : (awp cfg (know (know49 N)) (drawOk cfg (know (know49 N))) Try.f49.ntmps lv49 (cd Try.f49 [1, 1, 0, 1, 0, 0]) (head49_0 a b x5) (AExit.then N0 (AExit.inBlock 0 (seqK cfg (know (know49 N)) (drawOk cfg (know (know49 N))) Try.f49.ntmps lv49 (cd Try.f49 [1, 1, 1]) Q)))) = ((((decide ((x5 : Int) < ((Tree.kids a).length : Int))) = true → (0 ≤ x5 ∧ x5 < ((Tree.kids a).length : Int)) ∧ (0 ≤ x5 ∧ x5 < ((Tree.kids b).length : Int)) ∧ (pre49 ((Tree.mk (Tree.kind (List.getD (Tree.kids a) (Int.toNat x5) Tree.nil)) (Tree.words (List.getD (Tree.kids a) (Int.toNat x5) Tree.nil)) (Tree.kids (List.getD (Tree.kids a) (Int.toNat x5) Tree.nil))), (Tree.mk (Tree.kind (List.getD (Tree.kids b) (Int.toNat x5) Tree.nil)) (Tree.words (List.getD (Tree.kids b) (Int.toNat x5) Tree.nil)) (Tree.kids (List.getD (Tree.kids b) (Int.toNat x5) Tree.nil))), ())) ∧ (mu49 ((Tree.mk (Tree.kind (List.getD (Tree.kids a) (Int.toNat x5) Tree.nil)) (Tree.words (List.getD (Tree.kids a) (Int.toNat x5) Tree.nil)) (Tree.kids (List.getD (Tree.kids a) (Int.toNat x5) Tree.nil))), (Tree.mk (Tree.kind (List.getD (Tree.kids b) (Int.toNat x5) Tree.nil)) (Tree.words (List.getD (Tree.kids b) (Int.toNat x5) Tree.nil)) (Tree.kids (List.getD (Tree.kids b) (Int.toNat x5) Tree.nil))), ()) < N) ∧ (((!(sameT (Tree.mk (Tree.kind (List.getD (Tree.kids a) (Int.toNat x5) Tree.nil)) (Tree.words (List.getD (Tree.kids a) (Int.toNat x5) Tree.nil)) (Tree.kids (List.getD (Tree.kids a) (Int.toNat x5) Tree.nil))) (Tree.mk (Tree.kind (List.getD (Tree.kids b) (Int.toNat x5) Tree.nil)) (Tree.words (List.getD (Tree.kids b) (Int.toNat x5) Tree.nil)) (Tree.kids (List.getD (Tree.kids b) (Int.toNat x5) Tree.nil))))) = true → (Q .ret (⟨[(4, .c (.bool false))], [], []⟩ : LSt U))) ∧ ((!(sameT (Tree.mk (Tree.kind (List.getD (Tree.kids a) (Int.toNat x5) Tree.nil)) (Tree.words (List.getD (Tree.kids a) (Int.toNat x5) Tree.nil)) (Tree.kids (List.getD (Tree.kids a) (Int.toNat x5) Tree.nil))) (Tree.mk (Tree.kind (List.getD (Tree.kids b) (Int.toNat x5) Tree.nil)) (Tree.words (List.getD (Tree.kids b) (Int.toNat x5) Tree.nil)) (Tree.kids (List.getD (Tree.kids b) (Int.toNat x5) Tree.nil))))) = false → (InR ((x5 : Int) + 1)) ∧ (N0 (head49_0 a b ((x5 : Int) + 1)))))) ∧ ((decide ((x5 : Int) < ((Tree.kids a).length : Int))) = false → (Q .ret (⟨[(4, .c (.bool true))], [], []⟩ : LSt U))))) := by kernel_rfl
  exact e.mpr h
def Body49 (N : Nat) (a : Tree) (b : Tree)  : Prop := awp cfg (know (know49 N)) (drawOk cfg (know (know49 N))) Try.f49.ntmps lv49 (cd Try.f49 []) (entry (args49.can (a, b, ())) []) (EndsQ cfg Try.f49.ntmps Try.f49.results.toList (res49 (a, b, ())) [])
theorem make49 (c37 : Contract Try.prog cfg 37 spec37) (hb : ∀ (N : Nat) (a : Tree) (b : Tree) (_ : Unit), pre49 (a, b, ()) → mu49 (a, b, ()) < N + 1 → Body49 N a b) : Contract Try.prog cfg 49 spec49 :=
  contract_rec (μ := mu49) (l := [(37, spec37)]) cfgOk rfl (⟨c37, trivial⟩) lv49 Try.func49 rfl rfl 2 (fun _ => rfl) (by decide) (fun N ⟨a, b, _⟩ => hb N a b ())

noncomputable def know38 : List (FuncId × Fs U) := [(50, spec50), (49, spec49)]
def lv38 : Lives U := fun i => match i with
  | 0 => ([(2, []), (3, [])], [((.loc 2), []), ((.loc 3), [])])
  | 1 => ([(4, [])], [])
  | _ => ([], [])
theorem vc38 (a : Tree) (b : Tree) (Q : AExit → LSt U → Prop) (h : ((pre50 ((Tree.mk (Tree.kind a) (Tree.words a) (Tree.kids a)), ())) ∧ (pre50 ((Tree.mk (Tree.kind b) (Tree.words b) (Tree.kids b)), ())) ∧ (pre49 ((Tree.mk (Tree.kind (normT (Tree.mk (Tree.kind a) (Tree.words a) (Tree.kids a)))) (Tree.words (normT (Tree.mk (Tree.kind a) (Tree.words a) (Tree.kids a)))) (Tree.kids (normT (Tree.mk (Tree.kind a) (Tree.words a) (Tree.kids a))))), (Tree.mk (Tree.kind (normT (Tree.mk (Tree.kind b) (Tree.words b) (Tree.kids b)))) (Tree.words (normT (Tree.mk (Tree.kind b) (Tree.words b) (Tree.kids b)))) (Tree.kids (normT (Tree.mk (Tree.kind b) (Tree.words b) (Tree.kids b))))), ())) ∧ (Q .ret (⟨[(4, .c (.bool (sameT (Tree.mk (Tree.kind (normT (Tree.mk (Tree.kind a) (Tree.words a) (Tree.kids a)))) (Tree.words (normT (Tree.mk (Tree.kind a) (Tree.words a) (Tree.kids a)))) (Tree.kids (normT (Tree.mk (Tree.kind a) (Tree.words a) (Tree.kids a))))) (Tree.mk (Tree.kind (normT (Tree.mk (Tree.kind b) (Tree.words b) (Tree.kids b)))) (Tree.words (normT (Tree.mk (Tree.kind b) (Tree.words b) (Tree.kids b)))) (Tree.kids (normT (Tree.mk (Tree.kind b) (Tree.words b) (Tree.kids b))))))))], [], []⟩ : LSt U)))) :
    awp cfg (know know38) (drawOk cfg (know know38)) Try.f38.ntmps lv38 (cd Try.f38 []) (⟨[(0, .agg [.int .i64 (Tree.kind a), .slice (U := U) .u64 (Tree.words a) .unk, .slice (U := U) .tree (Tree.kids a) .unk]), (1, .agg [.int .i64 (Tree.kind b), .slice (U := U) .u64 (Tree.words b) .unk, .slice (U := U) .tree (Tree.kids b) .unk])], [], []⟩ : LSt U) Q := by
  have e : (awp cfg (know know38) (drawOk cfg (know know38)) Try.f38.ntmps lv38 (cd Try.f38 []) (⟨[(0, .agg [.int .i64 (Tree.kind a), .slice (U := U) .u64 (Tree.words a) .unk, .slice (U := U) .tree (Tree.kids a) .unk]), (1, .agg [.int .i64 (Tree.kind b), .slice (U := U) .u64 (Tree.words b) .unk, .slice (U := U) .tree (Tree.kids b) .unk])], [], []⟩ : LSt U) Q) = (((pre50 ((Tree.mk (Tree.kind a) (Tree.words a) (Tree.kids a)), ())) ∧ (pre50 ((Tree.mk (Tree.kind b) (Tree.words b) (Tree.kids b)), ())) ∧ (pre49 ((Tree.mk (Tree.kind (normT (Tree.mk (Tree.kind a) (Tree.words a) (Tree.kids a)))) (Tree.words (normT (Tree.mk (Tree.kind a) (Tree.words a) (Tree.kids a)))) (Tree.kids (normT (Tree.mk (Tree.kind a) (Tree.words a) (Tree.kids a))))), (Tree.mk (Tree.kind (normT (Tree.mk (Tree.kind b) (Tree.words b) (Tree.kids b)))) (Tree.words (normT (Tree.mk (Tree.kind b) (Tree.words b) (Tree.kids b)))) (Tree.kids (normT (Tree.mk (Tree.kind b) (Tree.words b) (Tree.kids b))))), ())) ∧ (Q .ret (⟨[(4, .c (.bool (sameT (Tree.mk (Tree.kind (normT (Tree.mk (Tree.kind a) (Tree.words a) (Tree.kids a)))) (Tree.words (normT (Tree.mk (Tree.kind a) (Tree.words a) (Tree.kids a)))) (Tree.kids (normT (Tree.mk (Tree.kind a) (Tree.words a) (Tree.kids a))))) (Tree.mk (Tree.kind (normT (Tree.mk (Tree.kind b) (Tree.words b) (Tree.kids b)))) (Tree.words (normT (Tree.mk (Tree.kind b) (Tree.words b) (Tree.kids b)))) (Tree.kids (normT (Tree.mk (Tree.kind b) (Tree.words b) (Tree.kids b))))))))], [], []⟩ : LSt U)))) := by kernel_rfl
  exact e.mpr h
def Body38 (a : Tree) (b : Tree)  : Prop := awp cfg (know (know38)) (drawOk cfg (know (know38))) Try.f38.ntmps lv38 (cd Try.f38 []) (entry (args38.can (a, b, ())) []) (EndsQ cfg Try.f38.ntmps Try.f38.results.toList (res38 (a, b, ())) [])
theorem make38 (c50 : Contract Try.prog cfg 50 spec50) (c49 : Contract Try.prog cfg 49 spec49) (hb : ∀ (a : Tree) (b : Tree) (_ : Unit), pre38 (a, b, ()) → Body38 a b) : Contract Try.prog cfg 38 spec38 :=
  contract_flat (l := [(50, spec50), (49, spec49)]) cfgOk rfl (⟨c50, c49, trivial⟩) lv38 Try.func38 rfl rfl 2 (fun _ => rfl) (by decide) (fun ⟨a, b, _⟩ => hb a b ())

end Go.AM.Ythokdjgpdonhgaa

namespace Go.AM.Ythokdjgpdonhgaa
open Go.AM Go.Proofs


theorem smallK_get : ∀ {ks : List Tree} {i : Nat}, smallK ks → i < ks.length → small (ks.getD i Tree.nil)
  | t :: _, 0, h, _ => by simp only [smallK] at h; exact h.1
  | _ :: r, i + 1, h, hi => by simp only [smallK] at h; exact smallK_get (ks := r) (i := i) h.2 (by simpa using hi)

theorem massK_get : ∀ {ks : List Tree} {i : Nat}, i < ks.length → mass (ks.getD i Tree.nil) ≤ massK ks
  | t :: _, 0, _ => by simp only [massK, List.getD_cons_zero]; omega
  | t :: r, i + 1, h => by
    have := massK_get (ks := r) (i := i) (by simpa using h)
    simp only [massK, List.getD_cons_succ]
    omega

mutual
theorem shallow_range : ∀ (t : Tree) (d l : Int), -1 ≤ shallow t d l ∧ shallow t d l ≤ max l (-1)
  | .mk _ w ks, d, l => by
    simp only [shallow]
    split
    · omega
    · have := shallowK_range ks (d - 1) (l - 1 - w.length) (by omega)
      omega
theorem shallowK_range : ∀ (ks : List Tree) (d l : Int), -1 ≤ l → -1 ≤ shallowK ks d l ∧ shallowK ks d l ≤ l
  | [], d, l, h => by simp only [shallowK]; omega
  | t :: r, d, l, h => by
    simp only [shallowK]
    split
    · omega
    · have h1 := shallow_range t d l
      have h2 := shallowK_range r d (shallow t d l) h1.1
      omega
end

theorem shallowK_drop {ks : List Tree} {i : Nat} {d l : Int} (h : i < ks.length) (hl : 0 ≤ l) : shallowK (ks.drop i) d l = shallowK (ks.drop (i + 1)) d (shallow (ks.getD i Tree.nil) d l) := by
  rw [List.drop_eq_getElem_cons h]
  simp only [shallowK]
  rw [if_neg (by omega)]
  simp [List.getD, h]

theorem c70 : Contract Try.prog cfg 70 spec70 := by
  refine make70 ?_
  rintro N ⟨k, ws, ks⟩ d l _ ⟨hs, h1, h2, h3, h4⟩ hN
  simp only [small, mu70, mass] at *
  refine vc70 N _ _ _ _ ?_
  (simp only [vcS])
  (simp only [Tree.eta, Tree.kind_mk, Tree.words_mk, Tree.kids_mk])
  refine ⟨by unfold InR; omega, by unfold InR; omega, by omega, by omega, fun hc => ?_, fun hc => ?_⟩
  · have e : shallow (.mk k ws ks) d l = -1 := by
      simp only [shallow]
      rw [if_pos (by omega)]
    simp only [res70, e]
    exact ⟨⟨rfl, ⟨⟨rfl, rfl⟩, trivial⟩, trivial⟩, trivial⟩
  · have e : shallow (.mk k ws ks) d l = shallowK ks (d - 1) (l - 1 - ws.length) := by
      simp only [shallow]
      rw [if_neg (by omega)]
    simp only [res70, e]
    refine loop_rule (ι := Int × Int) (fun p => head70_0 (.mk k ws ks) d l p.1 p.2) (fun p => 0 ≤ p.2 ∧ p.2 ≤ ks.length ∧ -1 ≤ p.1 ∧ p.1 ≤ l ∧ shallowK (ks.drop p.2.toNat) (d - 1) p.1 = shallowK ks (d - 1) (l - 1 - ws.length)) (fun p => ((ks.length : Int) - p.2).toNat) (l - 1 - ws.length, 0) rfl ⟨by omega, by omega, by omega, by omega, by simp⟩ ?_
    rintro ⟨l', i⟩ ⟨h5, h6, h7, h8, h9⟩
    dsimp only at *
    refine vc70_l0 N _ _ _ _ _ _ _ ?_
    (simp only [vcS])
    (simp only [Tree.eta, Tree.kind_mk, Tree.words_mk, Tree.kids_mk])
    refine ⟨by omega, by omega, fun hc => ?_, fun hc => ?_⟩
    · have hi : i.toNat < ks.length := by omega
      have hr := shallow_range (ks.getD i.toNat Tree.nil) (d - 1) l'
      have hn := massK_get hi
      have hd := shallowK_drop (d := d - 1) hi hc.2
      refine ⟨by omega, by unfold InR; omega, ⟨smallK_get hs.2.2 hi, by dsimp only; omega, by dsimp only; omega, by dsimp only; omega, by dsimp only; omega⟩, by simp only [mu70]; omega, by unfold InR; omega, ⟨(shallow (ks.getD i.toNat Tree.nil) (d - 1) l', i + 1), rfl, ⟨by dsimp only; omega, by dsimp only; omega, by dsimp only; omega, by dsimp only; omega, ?_⟩, by dsimp only; omega⟩⟩
      dsimp only
      rw [← h9, hd]
      congr 2
      omega
    · have e : shallowK ks (d - 1) (l - 1 - ws.length) = l' := by
        rw [← h9]
        by_cases hi : i < ks.length
        · rw [List.drop_eq_getElem_cons (by omega)]
          simp only [shallowK]
          rw [if_pos (by omega)]
        · rw [List.drop_eq_nil_of_le (by omega)]
          simp only [shallowK]
      rw [e]
      exact ⟨⟨rfl, ⟨⟨rfl, rfl⟩, trivial⟩, trivial⟩, trivial⟩

theorem c33 : Contract Try.prog cfg 33 spec33 := by
  refine make33 c70 ?_
  intro t _ hp
  refine vc33 _ _ ?_
  (simp only [Tree.eta, Tree.kind_mk, Tree.words_mk, Tree.kids_mk])
  refine ⟨⟨hp, by dsimp only; omega, by dsimp only; omega, by dsimp only; omega, by dsimp only; omega⟩, ?_⟩
  exact ⟨⟨rfl, ⟨rfl, trivial⟩, trivial⟩, trivial⟩

theorem c100 : Contract Try.prog cfg 100 spec100 := by
  refine make100 ?_
  intro t i _ hp
  refine vc100 _ _ _ ?_
  (simp only [vcS])
  (repeat (refine And.intro (by first | omega | (unfold InR; omega) | (dsimp only; omega)) ?_))
  refine ⟨fun hc => ?_, fun hc => ⟨by omega, ?_⟩⟩
  · have e : wordAt t i = 0 := by
      unfold wordAt
      split
      · rfl
      · rw [List.getD, List.getElem?_eq_none (by omega)]
        rfl
    simp only [res100, e]
    exact ⟨⟨rfl, ⟨⟨rfl, rfl⟩, trivial⟩, trivial⟩, trivial⟩
  · have e : wordAt t i = t.words.getD i.toNat 0 := by
      unfold wordAt
      rw [if_neg (by omega)]
    simp only [res100, e]
    exact ⟨⟨rfl, ⟨⟨rfl, rfl⟩, trivial⟩, trivial⟩, trivial⟩

theorem dropT_eq {a b : List Tree} {i : Int} (hi : 0 ≤ i) (ha : i < a.length) (hb : i < b.length) : (a.drop i.toNat = b.drop i.toNat) ↔ (a.getD i.toNat Tree.nil = b.getD i.toNat Tree.nil ∧ a.drop (i + 1).toNat = b.drop (i + 1).toNat) := by
  have e : (i + 1).toNat = i.toNat + 1 := by omega
  rw [List.drop_eq_getElem_cons (by omega), List.drop_eq_getElem_cons (l := b) (by omega), e]
  simp only [List.cons.injEq, List.getD, List.getElem?_eq_getElem (show i.toNat < a.length by omega), List.getElem?_eq_getElem (show i.toNat < b.length by omega), Option.getD_some]

theorem sameT_true {a b : Tree} : sameT a b = true ↔ a = b := by simp [sameT]
theorem sameT_false {a b : Tree} : sameT a b = false ↔ ¬ a = b := by simp [sameT]

theorem massK_len : ∀ (ks : List Tree), ks.length ≤ massK ks
  | [] => by simp [massK]
  | t :: r => by
    have := massK_len r
    have : 1 ≤ mass t := by cases t; simp only [mass]; omega
    simp only [massK, List.length_cons]
    omega

theorem c49 : Contract Try.prog cfg 49 spec49 := by
  refine make49 c37 ?_
  rintro N ⟨k, ws, ks⟩ ⟨k', ws', ks'⟩ _ hp hN
  have hlen := massK_len ks
  simp only [pre49, mu49, mass] at hp hN
  refine vc49 N _ _ _ ?_
  (simp only [vcS])
  (simp only [Tree.eta, Tree.kind_mk, Tree.words_mk, Tree.kids_mk])
  have p69 : pre37 (ws, ws', ()) := by simp only [pre37]; omega
  refine ⟨id, id, id, id, fun _ => p69, id, id, id, id, id, id, id, id, by simp, fun hc => ?_, fun hc => ?_⟩
  · have e : sameT (.mk k ws ks) (.mk k' ws' ks') = false := by
      rw [sameT_false]
      intro h
      cases h
      simp at hc
    simp only [res49, e]
    exact ⟨⟨rfl, ⟨rfl, trivial⟩, trivial⟩, trivial⟩
  · have hc' : (k = k' ∧ ws = ws') ∧ ks.length = ks'.length := ⟨hc.1, by have := hc.2; omega⟩
    obtain ⟨⟨rfl, rfl⟩, hl⟩ := hc'
    refine loop_rule (ι := Int) (fun p => head49_0 (.mk k ws ks) (.mk k ws ks') p) (fun p => 0 ≤ p ∧ p ≤ ks.length ∧ (Tree.mk k ws ks = .mk k ws ks' ↔ ks.drop p.toNat = ks'.drop p.toNat)) (fun p => ((ks.length : Int) - p).toNat) 0 rfl ⟨by omega, by omega, by simp⟩ ?_
    rintro i ⟨h1, h2, h3⟩
    refine vc49_l0 N _ _ _ _ _ ?_
    (simp only [vcS])
    (simp only [Tree.eta, Tree.kind_mk, Tree.words_mk, Tree.kids_mk])
    refine ⟨fun hc => ⟨by omega, by omega, ?_, ?_, fun hn => ?_, fun he => ⟨by unfold InR; omega, i + 1, rfl, ⟨by omega, by omega, ?_⟩, by omega⟩⟩, fun hc => ?_⟩
    · have := massK_get (ks := ks) (i := i.toNat) (by omega)
      simp only [pre49]
      omega
    · have := massK_get (ks := ks) (i := i.toNat) (by omega)
      simp only [mu49]
      omega
    · have e : sameT (.mk k ws ks) (.mk k ws ks') = false := by
        rw [sameT_false, h3, dropT_eq h1 hc (by omega)]
        rw [sameT_false] at hn
        exact fun h => hn h.1
      simp only [res49, e]
      exact ⟨⟨rfl, ⟨rfl, trivial⟩, trivial⟩, trivial⟩
    · rw [h3, dropT_eq h1 hc (by omega)]
      exact ⟨fun h => h.2, fun h => ⟨sameT_true.1 he, h⟩⟩
    · have e : sameT (.mk k ws ks) (.mk k ws ks') = true := by
        rw [sameT_true, h3]
        rw [List.drop_eq_nil_of_le (by omega), List.drop_eq_nil_of_le (by omega)]
      simp only [res49, e]
      exact ⟨⟨rfl, ⟨rfl, trivial⟩, trivial⟩, trivial⟩

theorem trim_zero : ∀ (l : List Int), trim (l ++ [0]) = trim l
  | [] => rfl
  | x :: r => by
    show (match trim (r ++ [0]) with | [] => if x = 0 then [] else [x] | y :: s => x :: y :: s) = _
    rw [trim_zero r]
    rfl

theorem trim_ne {x : Int} (hx : x ≠ 0) : ∀ (l : List Int), trim (l ++ [x]) = l ++ [x]
  | [] => by simp [trim, hx]
  | y :: r => by
    show (match trim (r ++ [x]) with | [] => if y = 0 then [] else [y] | z :: s => y :: z :: s) = _
    rw [trim_ne hx r]
    cases r <;> rfl

theorem take_last {l : List Int} {i : Int} (h0 : 0 < i) (hi : i ≤ l.length) : l.take i.toNat = l.take (i - 1).toNat ++ [l.getD (i - 1).toNat 0] := by
  have e : i.toNat = (i - 1).toNat + 1 := by omega
  rw [e, List.take_add_one]
  simp only [List.getD, List.getElem?_eq_getElem (show (i - 1).toNat < l.length by omega), Option.toList, Option.getD_some]

theorem c80 : Contract Try.prog cfg 80 spec80 := by
  refine make80 ?_
  intro l _ hp
  simp only [pre80] at hp
  refine vc80 _ _ ?_
  refine loop_rule (ι := Int) (fun p => head80_0 l p) (fun p => 0 ≤ p ∧ p ≤ l.length ∧ trim (l.take p.toNat) = trim l) (fun p => p.toNat) (l.length : Int) rfl ⟨by omega, by omega, by simp⟩ ?_
  rintro i ⟨h1, h2, h3⟩
  refine vc80_l0 _ _ _ _ ?_
  (simp only [vcS])
  refine ⟨id, fun h => by unfold InR; omega, id, id, fun h => by omega, id, id, id, fun hc => ⟨by unfold InR; omega, i - 1, rfl, ⟨by omega, by omega, ?_⟩, by omega⟩, fun hc => ⟨by omega, ?_, ?_⟩⟩
  · rw [take_last hc.1 h2, hc.2, trim_zero] at h3
    exact h3
  · simp only [List.length_nil, List.length_take]
    omega
  · have e : trim l = [] ++ l.take i.toNat := by
      rw [← h3]
      by_cases h0 : 0 < i
      · rw [take_last h0 h2, trim_ne (by rcases hc with h | h; exact absurd h0 h; exact h)]
        rfl
      · have : i.toNat = 0 := by omega
        rw [this]
        rfl
    simp only [res80, e]
    exact ⟨⟨rfl, ⟨⟨rfl, trivial⟩, trivial⟩, trivial⟩, trivial⟩

theorem trim_len : ∀ (l : List Int), (trim l).length ≤ l.length
  | [] => by simp [trim]
  | x :: r => by
    have := trim_len r
    simp only [trim]
    split
    · split <;> simp
    · rename_i h
      rw [h] at this
      simp at *
      omega

theorem trimK_mass : ∀ (l : List Tree), massK (trimK l) ≤ massK l
  | [] => by simp [trimK]
  | x :: r => by
    have := trimK_mass r
    simp only [trimK]
    split
    · split
      · simp [massK]
      · simp [massK]
    · rename_i h
      rw [h] at this
      simp only [massK] at *
      omega

mutual
theorem normT_mass : ∀ (t : Tree), mass (normT t) ≤ mass t
  | .mk k w ks => by
    have h1 := normK_mass ks
    have h2 := trim_len w
    have h3 := trimK_mass (normK ks)
    simp only [normT]
    split
    · simp only [Tree.nil, mass, massK, List.length_nil]; omega
    · split
      · simp only [mass]; omega
      · simp only [mass]; omega
theorem normK_mass : ∀ (ks : List Tree), massK (normK ks) ≤ massK ks
  | [] => by simp [normK]
  | t :: r => by
    have h1 := normT_mass t
    have h2 := normK_mass r
    simp only [normK, massK]
    omega
end

theorem normK_app : ∀ (l : List Tree) (x : Tree), normK (l ++ [x]) = normK l ++ [normT x]
  | [], x => rfl
  | y :: r, x => by simp only [List.cons_append, normK, normK_app r x]

theorem normK_len : ∀ (l : List Tree), (normK l).length = l.length
  | [] => rfl
  | y :: r => by simp only [normK, List.length_cons, normK_len r]

theorem trimK_zero {x : Tree} (hx : x.kind = 0) : ∀ (l : List Tree), trimK (l ++ [x]) = trimK l
  | [] => by simp [trimK, hx]
  | y :: r => by
    show (match trimK (r ++ [x]) with | [] => if y.kind = 0 then [] else [y] | z :: s => y :: z :: s) = _
    rw [trimK_zero hx r]
    rfl

theorem trimK_ne {x : Tree} (hx : x.kind ≠ 0) : ∀ (l : List Tree), trimK (l ++ [x]) = l ++ [x]
  | [] => by simp [trimK, hx]
  | y :: r => by
    show (match trimK (r ++ [x]) with | [] => if y.kind = 0 then [] else [y] | z :: s => y :: z :: s) = _
    rw [trimK_ne hx r]
    cases r <;> rfl

theorem takeT_next {l : List Tree} {i : Int} (h0 : 0 ≤ i) (hi : i < l.length) : l.take (i + 1).toNat = l.take i.toNat ++ [l.getD i.toNat Tree.nil] := by
  have e : (i + 1).toNat = i.toNat + 1 := by omega
  rw [e, List.take_add_one]
  simp only [List.getD, List.getElem?_eq_getElem (show i.toNat < l.length by omega), Option.toList, Option.getD_some]

theorem c50 : Contract Try.prog cfg 50 spec50 := by
  refine make50 c80 ?_
  rintro N ⟨k, ws, ks⟩ _ hp hN
  have hlen := massK_len ks
  simp only [pre50, mu50, mass] at hp hN
  refine vc50 N _ _ ?_
  (simp only [vcS])
  (simp only [Tree.eta, Tree.kind_mk, Tree.words_mk, Tree.kids_mk])
  refine ⟨fun hc => ?_, fun hc0 => ?_⟩
  · have e : normT (.mk k ws ks) = Tree.nil := by simp [normT, hc]
    simp only [res50, e]
    exact ⟨⟨rfl, ⟨⟨rfl, rfl⟩, ⟨rfl, ⟨rfl, trivial⟩⟩⟩, trivial⟩, trivial⟩
  · refine loop_rule (ι := Int × Int × List Tree) (fun p => head50_0 (.mk k ws ks) p.1 p.2.1 p.2.2) (fun p => 0 ≤ p.2.1 ∧ p.2.1 ≤ ks.length ∧ 0 ≤ p.1 ∧ p.1 ≤ p.2.1 ∧ p.2.2 = normK (ks.take p.2.1.toNat) ∧ trimK (normK (ks.take p.2.1.toNat)) = p.2.2.take p.1.toNat) (fun p => ((ks.length : Int) - p.2.1).toNat) (0, 0, []) rfl ⟨by dsimp only; omega, by dsimp only; omega, by dsimp only; omega, by dsimp only; omega, rfl, rfl⟩ ?_
    rintro ⟨last, i, l⟩ ⟨h1, h2, h3, h4, h5, h6⟩
    dsimp only at *
    have hl : l.length = i.toNat := by rw [h5, normK_len, List.length_take]; omega
    refine vc50_l0 N _ _ _ _ _ _ ?_
    (simp only [vcS])
    (simp only [Tree.eta, Tree.kind_mk, Tree.words_mk, Tree.kids_mk])
    refine ⟨fun hc => ?_, fun hc => ⟨fun h1 => ⟨?_, by omega, ?_⟩, fun hk => ⟨?_, ?_⟩⟩⟩
    · have hm := massK_get (ks := ks) (i := i.toNat) (by omega)
      have hnx : normK (ks.take (i + 1).toNat) = l ++ [normT (ks.getD i.toNat Tree.nil)] := by rw [takeT_next h1 hc, normK_app, h5]
      refine ⟨by omega, by simp only [pre50]; omega, by simp only [mu50]; omega, by simp only [List.length_cons, List.length_nil]; omega, fun hk => ⟨by unfold InR; omega, by unfold InR; omega, (i + 1, i + 1, _), rfl, ⟨by dsimp only; omega, by dsimp only; omega, by dsimp only; omega, by dsimp only; omega, hnx.symm, ?_⟩, by dsimp only; omega⟩, fun hk => ⟨by unfold InR; omega, (last, i + 1, _), rfl, ⟨by dsimp only; omega, by dsimp only; omega, by dsimp only; omega, by dsimp only; omega, hnx.symm, ?_⟩, by dsimp only; omega⟩⟩
      · dsimp only
        rw [hnx, trimK_ne hk, List.take_of_length_le (by simp; omega)]
      · dsimp only
        rw [hnx, trimK_zero hk, List.take_append_of_le_length (by omega), ← h6, h5]
    · simp only [pre80]; omega
    · have hi : ks.take i.toNat = ks := List.take_of_length_le (by omega)
      rw [hi] at h5 h6
      have e : normT (.mk k ws ks) = .mk 1 (trim ws) (l.take last.toNat) := by
        subst h1
        simp only [normT, ← h6]
        rfl
      simp only [res50, e]
      exact ⟨⟨rfl, ⟨⟨rfl, rfl⟩, ⟨rfl, trivial⟩, ⟨rfl, trivial⟩, trivial⟩, trivial⟩, trivial⟩
    · simp only [List.length_nil]; omega
    · have hi : ks.take i.toNat = ks := List.take_of_length_le (by omega)
      rw [hi] at h5
      have e : normT (.mk k ws ks) = .mk k ([] ++ ws) l := by
        simp only [normT, if_neg hc0, if_neg hk, h5]
        rfl
      simp only [res50, e]
      exact ⟨⟨rfl, ⟨⟨rfl, rfl⟩, ⟨rfl, trivial⟩, ⟨rfl, trivial⟩, trivial⟩, trivial⟩, trivial⟩

theorem c38 : Contract Try.prog cfg 38 spec38 := by
  refine make38 c50 c49 ?_
  intro a b _ hp
  have h1 := normT_mass a
  simp only [pre38] at hp
  refine vc38 _ _ _ ?_
  (simp only [Tree.eta, Tree.kind_mk, Tree.words_mk, Tree.kids_mk])
  refine ⟨hp.1, hp.2, ?_, ?_⟩
  · simp only [pre49]; omega
  · exact ⟨⟨rfl, ⟨rfl, trivial⟩, trivial⟩, trivial⟩

mutual
theorem weight_range : ∀ (t : Tree), 0 ≤ weight t ∧ weight t + 1 ≤ 2 * (mass t : Int)
  | .mk k w ks => by
    have h1 := weightK_range ks
    have h2 := massK_len ks
    simp only [weight, mass]
    split
    · omega
    · split
      · omega
      · split <;> omega
theorem weightK_range : ∀ (ks : List Tree), 0 ≤ weightK ks ∧ weightK ks + ks.length ≤ 2 * (massK ks : Int)
  | [] => by simp [weightK, massK]
  | t :: r => by
    have h1 := weight_range t
    have h2 := weightK_range r
    simp only [weightK, massK, List.length_cons]
    omega
end

theorem last_eq {l : List Int} (h0 : 0 < (l.length : Int)) : l = l.take ((l.length : Int) - 1).toNat ++ [l.getD ((l.length : Int) - 1).toNat 0] := by
  have := take_last h0 (Int.le_refl _)
  rw [List.take_of_length_le (by omega)] at this
  exact this

theorem lastT_eq {l : List Tree} (h0 : 0 < (l.length : Int)) : l = l.take ((l.length : Int) - 1).toNat ++ [l.getD ((l.length : Int) - 1).toNat Tree.nil] := by
  have := takeT_next (l := l) (i := (l.length : Int) - 1) (by omega) (by omega)
  rw [List.take_of_length_le (by omega)] at this
  exact this

theorem trim_step {l : List Int} (h0 : 0 < (l.length : Int)) (hz : l.getD ((l.length : Int) - 1).toNat 0 = 0) : trim (l.take ((l.length : Int) - 1).toNat) = trim l := by
  have e := trim_zero (l.take ((l.length : Int) - 1).toNat)
  have h := last_eq h0
  rw [hz] at h
  rw [← h] at e
  exact e.symm

theorem trim_done {l : List Int} (h : ¬ 0 < (l.length : Int) ∨ ¬ l.getD ((l.length : Int) - 1).toNat 0 = 0) : trim l = l := by
  by_cases h0 : 0 < (l.length : Int)
  · have e := trim_ne (x := l.getD ((l.length : Int) - 1).toNat 0) (by rcases h with h | h; exact absurd h0 h; exact h) (l.take ((l.length : Int) - 1).toNat)
    rw [← last_eq h0] at e
    exact e
  · have : l = [] := List.eq_nil_of_length_eq_zero (by omega)
    subst this
    rfl

theorem trimK_step {l : List Tree} (h0 : 0 < (l.length : Int)) (hz : (l.getD ((l.length : Int) - 1).toNat Tree.nil).kind = 0) : trimK (l.take ((l.length : Int) - 1).toNat) = trimK l := by
  have e := trimK_zero hz (l.take ((l.length : Int) - 1).toNat)
  rw [← lastT_eq h0] at e
  exact e.symm

theorem trimK_done {l : List Tree} (h : ¬ 0 < (l.length : Int) ∨ ¬ (l.getD ((l.length : Int) - 1).toNat Tree.nil).kind = 0) : trimK l = l := by
  by_cases h0 : 0 < (l.length : Int)
  · have e := trimK_ne (x := l.getD ((l.length : Int) - 1).toNat Tree.nil) (by rcases h with h | h; exact absurd h0 h; exact h) (l.take ((l.length : Int) - 1).toNat)
    rw [← lastT_eq h0] at e
    exact e
  · have : l = [] := List.eq_nil_of_length_eq_zero (by omega)
    subst this
    rfl

theorem c72 : Contract Try.prog cfg 72 spec72 := by
  refine make72 c60 ?_
  rintro N ⟨k, ws, ks⟩ _ hp hN
  have hlen := massK_len ks
  simp only [pre72, mu72, mass] at hp hN
  refine vc72 N _ _ ?_
  (simp only [vcS])
  (simp only [Tree.eta, Tree.kind_mk, Tree.words_mk, Tree.kids_mk])
  refine ⟨fun hc => ?_, fun hc0 => ⟨by simp only [pre60]; omega, ?_⟩⟩
  · have e : normT (.mk k ws ks) = Tree.nil := by simp [normT, hc]
    simp only [res72, e]
    exact ⟨⟨rfl, ⟨⟨rfl, rfl⟩, ⟨rfl, ⟨rfl, trivial⟩⟩⟩, trivial⟩, trivial⟩
  · refine loop_rule (ι := Int × List Tree) (fun p => head72_0 (.mk k ws ks) p.1 p.2) (fun p => 0 ≤ p.1 ∧ p.1 ≤ ks.length ∧ p.2 = normK (ks.take p.1.toNat)) (fun p => ((ks.length : Int) - p.1).toNat) (0, []) rfl ⟨by dsimp only; omega, by dsimp only; omega, rfl⟩ ?_
    rintro ⟨i, l⟩ ⟨h1, h2, h5⟩
    dsimp only at *
    have hl : l.length = i.toNat := by rw [h5, normK_len, List.length_take]; omega
    refine vc72_l0 N _ _ _ _ _ ?_
    (simp only [vcS])
    (simp only [Tree.eta, Tree.kind_mk, Tree.words_mk, Tree.kids_mk])
    refine ⟨fun hc => ?_, fun hc => ⟨fun hk => ?_, fun hk => ?_⟩⟩
    · have hm := massK_get (ks := ks) (i := i.toNat) (by omega)
      have hnx : normK (ks.take (i + 1).toNat) = l ++ [normT (ks.getD i.toNat Tree.nil)] := by rw [takeT_next h1 hc, normK_app, h5]
      exact ⟨by omega, by simp only [pre72]; omega, by simp only [mu72]; omega, by simp only [List.length_cons, List.length_nil]; omega, by unfold InR; omega, (i + 1, _), rfl, ⟨by dsimp only; omega, by dsimp only; omega, hnx.symm⟩, by dsimp only; omega⟩
    · have hi : ks.take i.toNat = ks := List.take_of_length_le (by omega)
      rw [hi] at h5
      refine loop_rule (ι := List Int) (fun p => head72_1 (.mk k ws ks) l p) (fun p => p.length ≤ ws.length ∧ trim p = trim ws) (fun p => p.length) ws rfl ⟨by omega, rfl⟩ ?_
      rintro w ⟨h6, h7⟩
      refine vc72_l1 N _ _ _ _ _ ?_
      (simp only [vcS])
      refine ⟨id, id, id, id, fun h => by unfold InR; omega, id, id, fun h => by omega, id, id, id, fun hc => ⟨by unfold InR; omega, by omega, _, rfl, ⟨by rw [List.length_take]; omega, ?_⟩, by rw [List.length_take]; omega⟩, fun hc => ?_⟩
      · rw [trim_step hc.1 hc.2, h7]
      · have hw : w = trim ws := by rw [← h7, trim_done hc]
        refine loop_rule (ι := List Tree) (fun p => head72_2 (.mk k ws ks) w p) (fun p => p.length ≤ l.length ∧ trimK p = trimK l) (fun p => p.length) l rfl ⟨by omega, rfl⟩ ?_
        rintro q ⟨h8, h9⟩
        refine vc72_l2 N _ _ _ _ _ ?_
        (simp only [vcS])
        refine ⟨id, id, id, id, fun h => by unfold InR; omega, id, id, fun h => by omega, id, id, id, id, fun hc => ⟨by unfold InR; omega, by omega, _, rfl, ⟨by rw [List.length_take]; omega, ?_⟩, by rw [List.length_take]; omega⟩, fun hc => ?_⟩
        · rw [trimK_step hc.1 hc.2, h9]
        · have hq : q = trimK (normK ks) := by rw [← h5, ← h9, trimK_done hc]
          have e : normT (.mk k ws ks) = .mk k w q := by
            subst hk
            simp only [normT, hw, hq]
            rfl
          simp only [res72, e]
          exact ⟨⟨rfl, ⟨⟨rfl, rfl⟩, ⟨rfl, trivial⟩, ⟨rfl, trivial⟩, trivial⟩, trivial⟩, trivial⟩
    · have hi : ks.take i.toNat = ks := List.take_of_length_le (by omega)
      rw [hi] at h5
      have e : normT (.mk k ws ks) = .mk k ws l := by simp only [normT, if_neg hc0, if_neg hk, h5]
      simp only [res72, e]
      exact ⟨⟨rfl, ⟨⟨rfl, rfl⟩, ⟨rfl, trivial⟩, ⟨rfl, trivial⟩, trivial⟩, trivial⟩, trivial⟩

end Go.AM.Ythokdjgpdonhgaa

namespace Go.AM.Ythokdjgpdonhgaa
open Go.AM Go.Proofs

def frW : List Tree → Nat
  | [] => 0
  | t :: r => max t.words.length (frW r)
def frK : List Tree → Nat
  | [] => 0
  | t :: r => max t.kids.length (frK r)

mutual
def sizeN : Tree → Nat
  | .mk k w ks =>
    if k = 1 then w.length + ks.length + sizeK ks
    else if k = 8 then ks.length + sizeK ks
    else if k = 9 then 1 + ks.length * (frW ks + frK ks) + sizeR ks
    else if 2 ≤ k ∧ k ≤ 7 then (roomW (k - 2) ks.length).toNat
    else sizeK ks
def sizeK : List Tree → Nat
  | [] => 0
  | t :: r => sizeN t + sizeK r
def sizeR : List Tree → Nat
  | [] => 0
  | .mk _ _ ks :: r => sizeK ks + sizeR r
end

def ptrP (a to kind up : Int) : Int := 4 * ((to - a - 1) % 1073741824) + kind + 4294967296 * up
def headP (a to : Int) : Tree → Int
  | .mk k w ks =>
    if k = 0 then 0
    else if k = 1 then ptrP a (if w.length + ks.length = 0 then a else to) 0 (w.length + 65536 * ks.length)
    else if k = 8 then ptrP a to 1 (6 + 8 * ks.length)
    else if k = 9 then ptrP a to 1 (7 + 8 * (ks.length * (frW ks + frK ks) : Nat))
    else ptrP a to 1 (k - 2 + 8 * ks.length)
def tagP (n fw fk : Nat) : Int := 4 * n + 4294967296 * (fw + 65536 * fk)
def numsP (ks : List Tree) : List Int := ks.map fun t => t.words.getD 0 0

mutual
def blkP : Tree → Int → List Int
  | .mk k w ks, to =>
    if k = 0 then []
    else if k = 1 then w ++ ((kidsP ks (to + w.length) (to + w.length + ks.length)).1 ++ (kidsP ks (to + w.length) (to + w.length + ks.length)).2)
    else if k = 8 then (kidsP ks to (to + ks.length)).1 ++ (kidsP ks to (to + ks.length)).2
    else if k = 9 then tagP ks.length (frW ks) (frK ks) :: ((rowsP (frW ks) (frK ks) ks (to + 1) (to + 1 + (ks.length * (frW ks + frK ks) : Nat))).1 ++ (rowsP (frW ks) (frK ks) ks (to + 1) (to + 1 + (ks.length * (frW ks + frK ks) : Nat))).2)
    else putR (k - 2) (numsP ks)
def kidsP : List Tree → Int → Int → List Int × List Int
  | [], _, _ => ([], [])
  | t :: r, a, to => (headP a to t :: (kidsP r (a + 1) (to + (blkP t to).length)).1, blkP t to ++ (kidsP r (a + 1) (to + (blkP t to).length)).2)
def rowsP (fw fk : Nat) : List Tree → Int → Int → List Int × List Int
  | [], _, _ => ([], [])
  | .mk _ w ks :: r, a, to =>
    (w ++ (List.replicate (fw - w.length) 0 ++ ((kidsP ks (a + fw) to).1 ++ (List.replicate (fk - ks.length) 0 ++ (rowsP fw fk r (a + (fw + fk)) (to + (kidsP ks (a + fw) to).2.length)).1))),
      (kidsP ks (a + fw) to).2 ++ (rowsP fw fk r (a + (fw + fk)) (to + (kidsP ks (a + fw) to).2.length)).2)
end

def layP (l : List Int) (a : Int) (t : Tree) : List Int := if t.kind = 0 then l else l.set a.toNat (headP a l.length t) ++ blkP t l.length

def encP (t : Tree) (most : Int) : List Int × Bool :=
  if rightT t 64 = true ∧ t.kind ≠ 10 then
    if (sizeN (normT t) : Int) < most ∧ sizeN (normT t) < 131072 then (layP [0] 0 (normT t), true) else ([], false)
  else ([], false)

end Go.AM.Ythokdjgpdonhgaa
