import Derived.Test.YtlahjnelghpmeaaD20
import Derived.Test.YtlahjnelghpmeaaAmXE
import Derived.Test.YtlahjnelghpmeaaD07
set_option linter.unusedSimpArgs false
set_option linter.unusedVariables false
namespace Go.AM.Ytlahjnelghpmeaa
open Go.AM Go.Proofs Go.Proofs.Ytlahjnelghpmeaa Go.ChangeShapes Go.WideShapes Go.RowKit
theorem editTypes : EditTypes cfg := ⟨⟨_, rfl, rfl⟩, ⟨_, _, rfl, rfl⟩, ⟨_, _, rfl, rfl⟩, ⟨_, _, rfl, rfl⟩, ⟨_, _, rfl, rfl⟩, ⟨_, rfl, rfl⟩, ⟨_, _, rfl, rfl⟩, rfl, ⟨_, rfl, rfl⟩, ⟨_, _, rfl, rfl⟩, ⟨_, _, rfl, rfl⟩, ⟨_, _, rfl, rfl, rfl⟩, rfl, ⟨_, rfl, rfl⟩, ⟨_, _, rfl, rfl⟩, rfl, rfl, ⟨_, _, rfl, rfl, rfl⟩, ⟨_, _, rfl, rfl, rfl⟩, ⟨_, _, rfl, rfl⟩, ⟨_, _, rfl, rfl, rfl⟩⟩
theorem argEdit {H : Type} {henc : TypeId × Value → H} : ArgR henc Try.prog cfg (aEl .edit) 46 inE := argR_el cfgOk rfl ⟨_, _, rfl⟩ (fun _ n cs h => rd_edit cfgOk treeTypes editTypes n cs h)
end Go.AM.Ytlahjnelghpmeaa

namespace Go.AM.Ytlahjnelghpmeaa
open Go.AM Go.Proofs
def args68 : ArgL (Tree × Int × Int × Unit) := (.cons (aEl .tree) (.cons (aInt .i64) (.cons (aInt .i64) .nil)))
def pre68 (a : Tree × Int × Int × Unit) : Prop := small a.1 ∧ 0 ≤ a.2.1 ∧ a.2.1 ≤ 4611686018427387904 ∧ -1 ≤ a.2.2.1 ∧ a.2.2.1 ≤ 4611686018427387904
def mu68 (a : Tree × Int × Int × Unit) : Nat := mass a.1
noncomputable def res68 (a : Tree × Int × Int × Unit) : V U := .c (.int .i64 (shallow a.1 a.2.1 a.2.2.1))
noncomputable def spec68 : Fs U := fs args68 (fun a => [pre68 a]) res68
def args69 : ArgL (List Int × List Int × Unit) := (.cons (aSl .u64) (.cons (aSl .u64) .nil))
def pre69 (a : List Int × List Int × Unit) : Prop := a.1.length ≤ 1000000000000
noncomputable def res69 (a : List Int × List Int × Unit) : V U := .c (.bool (decide (a.1 = a.2.1)))
noncomputable def spec69 : Fs U := fs args69 (fun a => [pre69 a]) res69
def args70 : ArgL (List Int × Unit) := (.cons (aSl .u64) .nil)
def pre70 (a : List Int × Unit) : Prop := a.1.length ≤ 1000000000000
noncomputable def res70 (a : List Int × Unit) : V U := .c (.slice (U := U) .u64 (trim a.1) .unk)
noncomputable def spec70 : Fs U := fs args70 (fun a => [pre70 a]) res70
def args71 : ArgL (List Int × Unit) := (.cons (aSl .u64) .nil)
def pre71 (a : List Int × Unit) : Prop := a.1.length ≤ 1000000000000
noncomputable def res71 (a : List Int × Unit) : V U := .c (.slice (U := U) .u64 a.1 .unk)
noncomputable def spec71 : Fs U := fs args71 (fun a => [pre71 a]) res71
def args31 : ArgL (Tree × Unit) := (.cons (aEl .tree) .nil)
def pre31 (a : Tree × Unit) : Prop := mass a.1 ≤ 1000000000000
def mu31 (a : Tree × Unit) : Nat := mass a.1
noncomputable def res31 (a : Tree × Unit) : V U := .agg [.int .i64 (Tree.kind (normT a.1)), .slice (U := U) .u64 (Tree.words (normT a.1)) .unk, .slice (U := U) .tree (Tree.kids (normT a.1)) .unk]
noncomputable def spec31 : Fs U := fs args31 (fun a => [pre31 a]) res31
def args32 : ArgL (Tree × Unit) := (.cons (aEl .tree) .nil)
def pre32 (a : Tree × Unit) : Prop := mass a.1 ≤ 1000000000000
def mu32 (a : Tree × Unit) : Nat := mass a.1
noncomputable def res32 (a : Tree × Unit) : V U := .agg [.int .i64 (Tree.kind (normT a.1)), .slice (U := U) .u64 (Tree.words (normT a.1)) .unk, .slice (U := U) .tree (Tree.kids (normT a.1)) .unk]
noncomputable def spec32 : Fs U := fs args32 (fun a => [pre32 a]) res32
def args33 : ArgL (Tree × Tree × Unit) := (.cons (aEl .tree) (.cons (aEl .tree) .nil))
def pre33 (a : Tree × Tree × Unit) : Prop := mass a.1 ≤ 1000000000000
def mu33 (a : Tree × Tree × Unit) : Nat := mass a.1
noncomputable def res33 (a : Tree × Tree × Unit) : V U := .c (.bool (sameT a.1 a.2.1))
noncomputable def spec33 : Fs U := fs args33 (fun a => [pre33 a]) res33
noncomputable def know68 (N : Nat) : List (FuncId × Fs U) := (68, fs args68 (fun a => [pre68 a, mu68 a < N]) res68) :: []
def lv68 : Lives U := fun i => match i with
  | 0 => ([(1, []), (2, []), (3, [])], [((.loc 3), [])])
  | 1 => ([(1, []), (2, []), (3, [])], [((.loc 3), [])])
  | 2 => ([(1, []), (2, []), (3, []), (19, [])], [((.loc 3), [])])
  | 3 => ([(6, [])], [])
  | 4 => ([(1, []), (2, []), (3, []), (7, [])], [((.loc 3), [])])
  | 5 => ([(1, []), (2, []), (3, []), (7, []), (28, [])], [((.loc 3), [])])
  | 6 => ([(1, []), (2, []), (3, []), (7, [])], [((.loc 3), [])])
  | 7 => ([(1, []), (2, []), (3, []), (7, [])], [((.loc 3), [])])
  | 8 => ([(6, [])], [])
  | _ => ([], [])
def head68_0 (t : Tree) (d : Int) (l : Int) (x2 : Int) (x7 : Int) : LSt U := (⟨[(1, .c (.int .i64 d)), (2, .c (.int .i64 x2)), (3, .ptr (.loc 3) 0), (7, .c (.int .i64 x7))], [((.loc 3), [.int .i64 (Tree.kind t), .slice (U := U) .u64 (Tree.words t) .unk, .slice (U := U) .tree (Tree.kids t) .unk])], []⟩ : LSt U)
theorem vc68 (N : Nat) (t : Tree) (d : Int) (l : Int) (Q : AExit → LSt U → Prop) (h : ((InR ((l : Int) - 1)) ∧ (InR ((((l : Int) - 1) : Int) - ((Tree.words t).length : Int))) ∧ (((!((d : Int) == 0)) = true → (!((d : Int) == 0)) = true) ∧ ((((d : Int) == 0) = false → (!((d : Int) == 0)) = true)) ∧ (((bif ((d : Int) == 0) then true else (decide ((((((l : Int) - 1) : Int) - ((Tree.words t).length : Int)) : Int) < 0))) = true → (Q .ret (⟨[(6, .c (.int .i64 (-1)))], [], []⟩ : LSt U))) ∧ ((bif ((d : Int) == 0) then true else (decide ((((((l : Int) - 1) : Int) - ((Tree.words t).length : Int)) : Int) < 0))) = false → (LoopWp (awp cfg (know (know68 N)) (drawOk cfg (know (know68 N))) Try.f68.ntmps lv68 (cd Try.f68 [1, 1, 1, 0, 1, 0, 0])) (head68_0 t d l ((((l : Int) - 1) : Int) - ((Tree.words t).length : Int)) 0) (AExit.inBlock 0 (seqK cfg (know (know68 N)) (drawOk cfg (know (know68 N))) Try.f68.ntmps lv68 (cd Try.f68 [1, 1, 1, 1]) Q)))))))) :
    awp cfg (know (know68 N)) (drawOk cfg (know (know68 N))) Try.f68.ntmps lv68 (cd Try.f68 []) (⟨[(0, .agg [.int .i64 (Tree.kind t), .slice (U := U) .u64 (Tree.words t) .unk, .slice (U := U) .tree (Tree.kids t) .unk]), (1, .c (.int .i64 d)), (2, .c (.int .i64 l))], [], []⟩ : LSt U) Q := by
  have e : (awp cfg (know (know68 N)) (drawOk cfg (know (know68 N))) Try.f68.ntmps lv68 (cd Try.f68 []) (⟨[(0, .agg [.int .i64 (Tree.kind t), .slice (U := U) .u64 (Tree.words t) .unk, .slice (U := U) .tree (Tree.kids t) .unk]), (1, .c (.int .i64 d)), (2, .c (.int .i64 l))], [], []⟩ : LSt U) Q) = (type_of% h) := by kernel_rfl
  exact e.mpr h
theorem vc68_l0 (N : Nat) (t : Tree) (d : Int) (l : Int) (x2 : Int) (x7 : Int) (N0 : LSt U → Prop) (Q : AExit → LSt U → Prop) (h : ((decide ((x7 : Int) < ((Tree.kids t).length : Int))) = true → (decide ((x7 : Int) < ((Tree.kids t).length : Int))) = true) ∧ (((decide ((x7 : Int) < ((Tree.kids t).length : Int))) = true → (decide ((x7 : Int) < ((Tree.kids t).length : Int))) = true)) ∧ (((bif (decide ((x7 : Int) < ((Tree.kids t).length : Int))) then (decide ((0 : Int) ≤ x2)) else false) = true → (0 ≤ x7 ∧ x7 < ((Tree.kids t).length : Int)) ∧ (InR ((d : Int) - 1)) ∧ (pre68 ((Tree.mk (Tree.kind (List.getD (Tree.kids t) (Int.toNat x7) Tree.nil)) (Tree.words (List.getD (Tree.kids t) (Int.toNat x7) Tree.nil)) (Tree.kids (List.getD (Tree.kids t) (Int.toNat x7) Tree.nil))), ((d : Int) - 1), x2, ())) ∧ (mu68 ((Tree.mk (Tree.kind (List.getD (Tree.kids t) (Int.toNat x7) Tree.nil)) (Tree.words (List.getD (Tree.kids t) (Int.toNat x7) Tree.nil)) (Tree.kids (List.getD (Tree.kids t) (Int.toNat x7) Tree.nil))), ((d : Int) - 1), x2, ()) < N) ∧ ((InR ((x7 : Int) + 1)) ∧ (N0 (head68_0 t d l (shallow (Tree.mk (Tree.kind (List.getD (Tree.kids t) (Int.toNat x7) Tree.nil)) (Tree.words (List.getD (Tree.kids t) (Int.toNat x7) Tree.nil)) (Tree.kids (List.getD (Tree.kids t) (Int.toNat x7) Tree.nil))) ((d : Int) - 1) x2) ((x7 : Int) + 1))))) ∧ ((bif (decide ((x7 : Int) < ((Tree.kids t).length : Int))) then (decide ((0 : Int) ≤ x2)) else false) = false → (Q .ret (⟨[(6, .c (.int .i64 x2))], [], []⟩ : LSt U))))) :
    awp cfg (know (know68 N)) (drawOk cfg (know (know68 N))) Try.f68.ntmps lv68 (cd Try.f68 [1, 1, 1, 0, 1, 0, 0]) (head68_0 t d l x2 x7) (AExit.then N0 (AExit.inBlock 0 (seqK cfg (know (know68 N)) (drawOk cfg (know (know68 N))) Try.f68.ntmps lv68 (cd Try.f68 [1, 1, 1, 1]) Q))) := by
  have e : (awp cfg (know (know68 N)) (drawOk cfg (know (know68 N))) Try.f68.ntmps lv68 (cd Try.f68 [1, 1, 1, 0, 1, 0, 0]) (head68_0 t d l x2 x7) (AExit.then N0 (AExit.inBlock 0 (seqK cfg (know (know68 N)) (drawOk cfg (know (know68 N))) Try.f68.ntmps lv68 (cd Try.f68 [1, 1, 1, 1]) Q)))) = (type_of% h) := by kernel_rfl
  exact e.mpr h
def Body68 (N : Nat) (t : Tree) (d : Int) (l : Int)  : Prop := awp cfg (know (know68 N)) (drawOk cfg (know (know68 N))) Try.f68.ntmps lv68 (cd Try.f68 []) (entry (args68.can (t, d, l, ())) []) (EndsQ cfg Try.f68.ntmps Try.f68.results.toList (res68 (t, d, l, ())) [])
theorem make68 (hb : ∀ (N : Nat) (t : Tree) (d : Int) (l : Int) (_ : Unit), pre68 (t, d, l, ()) → mu68 (t, d, l, ()) < N + 1 → Body68 N t d l) : Contract Try.prog cfg 68 spec68 :=
  contract_rec (μ := mu68) (l := []) cfgOk rfl (trivial) lv68 Try.func68 rfl rfl 3 (fun _ => rfl) (by decide) (fun N ⟨t, d, l, _⟩ => hb N t d l ())
noncomputable def know69 : List (FuncId × Fs U) := []
def lv69 : Lives U := fun i => match i with
  | 0 => ([(0, []), (1, [])], [])
  | 1 => ([(0, []), (1, []), (10, [])], [])
  | 2 => ([(4, [])], [])
  | 3 => ([(0, []), (1, []), (5, [])], [])
  | 4 => ([(0, []), (1, []), (5, []), (14, [])], [])
  | 5 => ([(0, []), (1, []), (5, [])], [])
  | 6 => ([(0, []), (1, []), (5, []), (25, [])], [])
  | 7 => ([(4, [])], [])
  | 8 => ([(4, [])], [])
  | _ => ([], [])
def head69_0 (a : List Int) (b : List Int) (x5 : Int) : LSt U := (⟨[(0, .c (.slice (U := U) .u64 a .unk)), (1, .c (.slice (U := U) .u64 b .unk)), (5, .c (.int .i64 x5))], [], []⟩ : LSt U)
theorem vc69 (a : List Int) (b : List Int) (Q : AExit → LSt U → Prop) (h : ((((((a.length : Int) : Int) != (b.length : Int)) = true → (Q .ret (⟨[(4, .c (.bool false))], [], []⟩ : LSt U))) ∧ ((((a.length : Int) : Int) != (b.length : Int)) = false → (LoopWp (awp cfg (know know69) (drawOk cfg (know know69)) Try.f69.ntmps lv69 (cd Try.f69 [1, 1, 0, 1, 0, 0])) (head69_0 a b 0) (AExit.inBlock 0 (seqK cfg (know know69) (drawOk cfg (know know69)) Try.f69.ntmps lv69 (cd Try.f69 [1, 1, 1]) Q))))))) :
    awp cfg (know know69) (drawOk cfg (know know69)) Try.f69.ntmps lv69 (cd Try.f69 []) (⟨[(0, .c (.slice (U := U) .u64 a .unk)), (1, .c (.slice (U := U) .u64 b .unk))], [], []⟩ : LSt U) Q := by
  have e : (awp cfg (know know69) (drawOk cfg (know know69)) Try.f69.ntmps lv69 (cd Try.f69 []) (⟨[(0, .c (.slice (U := U) .u64 a .unk)), (1, .c (.slice (U := U) .u64 b .unk))], [], []⟩ : LSt U) Q) = (type_of% h) := by kernel_rfl
  exact e.mpr h
theorem vc69_l0 (a : List Int) (b : List Int) (x5 : Int) (N0 : LSt U → Prop) (Q : AExit → LSt U → Prop) (h : (((decide ((x5 : Int) < (a.length : Int))) = true → (0 ≤ x5 ∧ x5 < (a.length : Int)) ∧ (0 ≤ x5 ∧ x5 < (b.length : Int)) ∧ (((((List.getD a (Int.toNat x5) (0 : Int)) : Int) != (List.getD b (Int.toNat x5) (0 : Int))) = true → (Q .ret (⟨[(4, .c (.bool false))], [], []⟩ : LSt U))) ∧ ((((List.getD a (Int.toNat x5) (0 : Int)) : Int) != (List.getD b (Int.toNat x5) (0 : Int))) = false → (InR ((x5 : Int) + 1)) ∧ (N0 (head69_0 a b ((x5 : Int) + 1)))))) ∧ ((decide ((x5 : Int) < (a.length : Int))) = false → (Q .ret (⟨[(4, .c (.bool true))], [], []⟩ : LSt U))))) :
    awp cfg (know know69) (drawOk cfg (know know69)) Try.f69.ntmps lv69 (cd Try.f69 [1, 1, 0, 1, 0, 0]) (head69_0 a b x5) (AExit.then N0 (AExit.inBlock 0 (seqK cfg (know know69) (drawOk cfg (know know69)) Try.f69.ntmps lv69 (cd Try.f69 [1, 1, 1]) Q))) := by
  have e : (awp cfg (know know69) (drawOk cfg (know know69)) Try.f69.ntmps lv69 (cd Try.f69 [1, 1, 0, 1, 0, 0]) (head69_0 a b x5) (AExit.then N0 (AExit.inBlock 0 (seqK cfg (know know69) (drawOk cfg (know know69)) Try.f69.ntmps lv69 (cd Try.f69 [1, 1, 1]) Q)))) = (type_of% h) := by kernel_rfl
  exact e.mpr h
def Body69 (a : List Int) (b : List Int)  : Prop := awp cfg (know (know69)) (drawOk cfg (know (know69))) Try.f69.ntmps lv69 (cd Try.f69 []) (entry (args69.can (a, b, ())) []) (EndsQ cfg Try.f69.ntmps Try.f69.results.toList (res69 (a, b, ())) [])
theorem make69 (hb : ∀ (a : List Int) (b : List Int) (_ : Unit), pre69 (a, b, ()) → Body69 a b) : Contract Try.prog cfg 69 spec69 :=
  contract_flat (l := []) cfgOk rfl (trivial) lv69 Try.func69 rfl rfl 2 (fun _ => rfl) (by decide) (fun ⟨a, b, _⟩ => hb a b ())
noncomputable def know70 : List (FuncId × Fs U) := []
def lv70 : Lives U := fun i => match i with
  | 0 => ([(0, [])], [])
  | 1 => ([(0, []), (3, [])], [])
  | 2 => ([(0, []), (3, []), (16, [])], [])
  | 3 => ([(0, []), (3, [])], [])
  | 4 => ([(0, []), (3, []), (4, [])], [])
  | 5 => ([(2, [])], [])
  | _ => ([], [])
def head70_0 (l : List Int) (x3 : Int) : LSt U := (⟨[(0, .c (.slice (U := U) .u64 l .unk)), (3, .c (.int .i64 x3))], [], []⟩ : LSt U)
theorem vc70 (l : List Int) (Q : AExit → LSt U → Prop) (h : ((LoopWp (awp cfg (know know70) (drawOk cfg (know know70)) Try.f70.ntmps lv70 (cd Try.f70 [1, 1, 0, 0, 0])) (head70_0 l (l.length : Int)) (AExit.inBlock 0 (seqK cfg (know know70) (drawOk cfg (know know70)) Try.f70.ntmps lv70 (cd Try.f70 [1, 1, 1]) Q))))) :
    awp cfg (know know70) (drawOk cfg (know know70)) Try.f70.ntmps lv70 (cd Try.f70 []) (⟨[(0, .c (.slice (U := U) .u64 l .unk))], [], []⟩ : LSt U) Q := by
  have e : (awp cfg (know know70) (drawOk cfg (know know70)) Try.f70.ntmps lv70 (cd Try.f70 []) (⟨[(0, .c (.slice (U := U) .u64 l .unk))], [], []⟩ : LSt U) Q) = (type_of% h) := by kernel_rfl
  exact e.mpr h
theorem vc70_l0 (l : List Int) (x3 : Int) (N0 : LSt U → Prop) (Q : AExit → LSt U → Prop) (h : ((decide ((0 : Int) < x3)) = true → (decide ((0 : Int) < x3)) = true) ∧ ((decide ((0 : Int) < x3)) = true → InR ((x3 : Int) - 1)) ∧ ((decide ((0 : Int) < x3)) = true → (decide ((0 : Int) < x3)) = true) ∧ ((decide ((0 : Int) < x3)) = true → (decide ((0 : Int) < x3)) = true) ∧ ((decide ((0 : Int) < x3)) = true → 0 ≤ ((x3 : Int) - 1) ∧ ((x3 : Int) - 1) < (l.length : Int)) ∧ ((decide ((0 : Int) < x3)) = true → (decide ((0 : Int) < x3)) = true) ∧ ((decide ((0 : Int) < x3)) = true → (decide ((0 : Int) < x3)) = true) ∧ (((decide ((0 : Int) < x3)) = true → (decide ((0 : Int) < x3)) = true)) ∧ (((bif (decide ((0 : Int) < x3)) then (((List.getD l (Int.toNat ((x3 : Int) - 1)) (0 : Int)) : Int) == 0) else false) = true → (InR ((x3 : Int) - 1)) ∧ (N0 (head70_0 l ((x3 : Int) - 1)))) ∧ ((bif (decide ((0 : Int) < x3)) then (((List.getD l (Int.toNat ((x3 : Int) - 1)) (0 : Int)) : Int) == 0) else false) = false → ((0 ≤ x3 ∧ x3 ≤ (l.length : Int)) ∧ ((([] : List Int).length + (List.take (Int.toNat x3) l).length) * 8 ≤ 140737488355328) ∧ (Q .ret (⟨[(2, .c (.slice (U := U) .u64 (([] : List Int) ++ (List.take (Int.toNat x3) l)) (.own (.e 2 0))))], [], []⟩ : LSt U)))))) :
    awp cfg (know know70) (drawOk cfg (know know70)) Try.f70.ntmps lv70 (cd Try.f70 [1, 1, 0, 0, 0]) (head70_0 l x3) (AExit.then N0 (AExit.inBlock 0 (seqK cfg (know know70) (drawOk cfg (know know70)) Try.f70.ntmps lv70 (cd Try.f70 [1, 1, 1]) Q))) := by
  have e : (awp cfg (know know70) (drawOk cfg (know know70)) Try.f70.ntmps lv70 (cd Try.f70 [1, 1, 0, 0, 0]) (head70_0 l x3) (AExit.then N0 (AExit.inBlock 0 (seqK cfg (know know70) (drawOk cfg (know know70)) Try.f70.ntmps lv70 (cd Try.f70 [1, 1, 1]) Q)))) = (type_of% h) := by kernel_rfl
  exact e.mpr h
def Body70 (l : List Int)  : Prop := awp cfg (know (know70)) (drawOk cfg (know (know70))) Try.f70.ntmps lv70 (cd Try.f70 []) (entry (args70.can (l, ())) []) (EndsQ cfg Try.f70.ntmps Try.f70.results.toList (res70 (l, ())) [])
theorem make70 (hb : ∀ (l : List Int) (_ : Unit), pre70 (l, ()) → Body70 l) : Contract Try.prog cfg 70 spec70 :=
  contract_flat (l := []) cfgOk rfl (trivial) lv70 Try.func70 rfl rfl 1 (fun _ => rfl) (by decide) (fun ⟨l, _⟩ => hb l ())
noncomputable def know71 : List (FuncId × Fs U) := []
def lv71 : Lives U := fun i => match i with
  | 0 => ([(0, [])], [])
  | 1 => ([(0, []), (4, [])], [])
  | 2 => ([(2, [])], [])
  | 3 => ([(2, [])], [])
  | _ => ([], [])
theorem vc71 (l : List Int) (Q : AExit → LSt U → Prop) (h : ((((l = []) → (Q .ret (⟨[(2, .c (.nils))], [], []⟩ : LSt U))) ∧ ((True) → ((([] : List Int).length + l.length) * 8 ≤ 140737488355328) ∧ (Q .ret (⟨[(2, .c (.slice (U := U) .u64 (([] : List Int) ++ l) (.own (.e 2 0))))], [], []⟩ : LSt U)))))) :
    awp cfg (know know71) (drawOk cfg (know know71)) Try.f71.ntmps lv71 (cd Try.f71 []) (⟨[(0, .c (.slice (U := U) .u64 l .unk))], [], []⟩ : LSt U) Q := by
  have e : (awp cfg (know know71) (drawOk cfg (know know71)) Try.f71.ntmps lv71 (cd Try.f71 []) (⟨[(0, .c (.slice (U := U) .u64 l .unk))], [], []⟩ : LSt U) Q) = (type_of% h) := by kernel_rfl
  exact e.mpr h
def Body71 (l : List Int)  : Prop := awp cfg (know (know71)) (drawOk cfg (know (know71))) Try.f71.ntmps lv71 (cd Try.f71 []) (entry (args71.can (l, ())) []) (EndsQ cfg Try.f71.ntmps Try.f71.results.toList (res71 (l, ())) [])
theorem make71 (hb : ∀ (l : List Int) (_ : Unit), pre71 (l, ()) → Body71 l) : Contract Try.prog cfg 71 spec71 :=
  contract_flat (l := []) cfgOk rfl (trivial) lv71 Try.func71 rfl rfl 1 (fun _ => rfl) (by decide) (fun ⟨l, _⟩ => hb l ())
noncomputable def know31 (N : Nat) : List (FuncId × Fs U) := (31, fs args31 (fun a => [pre31 a, mu31 a < N]) res31) :: [(70, spec70)]
def lv31 : Lives U := fun i => match i with
  | 0 => ([(1, []), (2, [])], [((.loc 1), []), ((.loc 2), [])])
  | 1 => ([(1, []), (2, []), (10, [])], [((.loc 1), []), ((.loc 2), [])])
  | 2 => ([(2, [])], [((.loc 2), [])])
  | 3 => ([(1, []), (2, []), (3, [])], [((.loc 1), []), ((.loc 2), [])])
  | 4 => ([(1, []), (2, []), (3, []), (4, [])], [((.loc 1), []), ((.loc 2), [])])
  | 5 => ([(1, []), (2, []), (3, [.own .tree]), (4, []), (5, [])], [((.loc 1), []), ((.loc 2), [])])
  | 6 => ([(1, []), (2, []), (3, []), (4, []), (5, []), (16, [])], [((.loc 1), []), ((.loc 2), [])])
  | 7 => ([(1, []), (2, []), (3, [.own .tree]), (4, []), (5, [])], [((.loc 1), []), ((.loc 2), [])])
  | 8 => ([(1, []), (2, []), (3, []), (4, []), (5, []), (6, [])], [((.loc 1), []), ((.loc 2), []), ((.loc 6), [])])
  | 9 => ([(1, []), (2, []), (3, []), (4, []), (5, []), (6, [])], [((.loc 1), []), ((.loc 2), []), ((.loc 6), [])])
  | 10 => ([(1, []), (2, []), (3, []), (4, []), (5, []), (31, [])], [((.loc 1), []), ((.loc 2), [])])
  | 11 => ([(1, []), (2, []), (3, []), (4, []), (5, [])], [((.loc 1), []), ((.loc 2), [])])
  | 12 => ([(1, []), (2, []), (3, []), (4, []), (36, [])], [((.loc 1), []), ((.loc 2), [])])
  | 13 => ([(2, [])], [((.loc 2), [])])
  | 14 => ([(1, []), (2, []), (3, []), (7, [])], [((.loc 1), []), ((.loc 2), [])])
  | 15 => ([(1, []), (2, []), (3, []), (7, [])], [((.loc 1), []), ((.loc 2), [])])
  | 16 => ([(2, [])], [((.loc 2), [])])
  | _ => ([], [])
def head31_0 (t : Tree) (x4 : Int) (x5 : Int) (x3 : List Tree) : LSt U := (⟨[(1, .ptr (.loc 1) 0), (2, .ptr (.loc 2) 0), (3, .c (.slice (U := U) .tree x3 (.own (.e 3 0)))), (4, .c (.int .i64 x4)), (5, .c (.int .i64 x5))], [((.loc 1), [.int .i64 (Tree.kind t), .slice (U := U) .u64 (Tree.words t) .unk, .slice (U := U) .tree (Tree.kids t) .unk]), ((.loc 2), [.int .i64 0, .nils, .nils])], []⟩ : LSt U)
theorem vc31 (N : Nat) (t : Tree) (Q : AExit → LSt U → Prop) (h : ((((((Tree.kind t) : Int) == 0) = true → (Q .ret (⟨[(2, .ptr (.loc 2) 0)], [((.loc 2), [.int .i64 0, .nils, .nils])], []⟩ : LSt U))) ∧ ((((Tree.kind t) : Int) == 0) = false → (((LoopWp (awp cfg (know (know31 N)) (drawOk cfg (know (know31 N))) Try.f31.ntmps lv31 (cd Try.f31 [1, 1, 1, 1, 0, 1, 0, 0])) (head31_0 t 0 0 ([])) (AExit.inBlock 0 (seqK cfg (know (know31 N)) (drawOk cfg (know (know31 N))) Try.f31.ntmps lv31 (cd Try.f31 [1, 1, 1, 1, 1]) Q))))))))) :
    awp cfg (know (know31 N)) (drawOk cfg (know (know31 N))) Try.f31.ntmps lv31 (cd Try.f31 []) (⟨[(0, .agg [.int .i64 (Tree.kind t), .slice (U := U) .u64 (Tree.words t) .unk, .slice (U := U) .tree (Tree.kids t) .unk])], [], []⟩ : LSt U) Q := by
  have e : (awp cfg (know (know31 N)) (drawOk cfg (know (know31 N))) Try.f31.ntmps lv31 (cd Try.f31 []) (⟨[(0, .agg [.int .i64 (Tree.kind t), .slice (U := U) .u64 (Tree.words t) .unk, .slice (U := U) .tree (Tree.kids t) .unk])], [], []⟩ : LSt U) Q) = (type_of% h) := by kernel_rfl
  exact e.mpr h
theorem vc31_l0 (N : Nat) (t : Tree) (x4 : Int) (x5 : Int) (x3 : List Tree) (N0 : LSt U → Prop) (Q : AExit → LSt U → Prop) (h : (((decide ((x5 : Int) < ((Tree.kids t).length : Int))) = true → (0 ≤ x5 ∧ x5 < ((Tree.kids t).length : Int)) ∧ (pre31 ((Tree.mk (Tree.kind (List.getD (Tree.kids t) (Int.toNat x5) Tree.nil)) (Tree.words (List.getD (Tree.kids t) (Int.toNat x5) Tree.nil)) (Tree.kids (List.getD (Tree.kids t) (Int.toNat x5) Tree.nil))), ())) ∧ (mu31 ((Tree.mk (Tree.kind (List.getD (Tree.kids t) (Int.toNat x5) Tree.nil)) (Tree.words (List.getD (Tree.kids t) (Int.toNat x5) Tree.nil)) (Tree.kids (List.getD (Tree.kids t) (Int.toNat x5) Tree.nil))), ()) < N) ∧ (((x3.length + ([(Tree.mk (Tree.kind (normT (Tree.mk (Tree.kind (List.getD (Tree.kids t) (Int.toNat x5) Tree.nil)) (Tree.words (List.getD (Tree.kids t) (Int.toNat x5) Tree.nil)) (Tree.kids (List.getD (Tree.kids t) (Int.toNat x5) Tree.nil))))) (Tree.words (normT (Tree.mk (Tree.kind (List.getD (Tree.kids t) (Int.toNat x5) Tree.nil)) (Tree.words (List.getD (Tree.kids t) (Int.toNat x5) Tree.nil)) (Tree.kids (List.getD (Tree.kids t) (Int.toNat x5) Tree.nil))))) (Tree.kids (normT (Tree.mk (Tree.kind (List.getD (Tree.kids t) (Int.toNat x5) Tree.nil)) (Tree.words (List.getD (Tree.kids t) (Int.toNat x5) Tree.nil)) (Tree.kids (List.getD (Tree.kids t) (Int.toNat x5) Tree.nil))))))]).length) * 56 ≤ 140737488355328) ∧ ((((((Tree.kind (normT (Tree.mk (Tree.kind (List.getD (Tree.kids t) (Int.toNat x5) Tree.nil)) (Tree.words (List.getD (Tree.kids t) (Int.toNat x5) Tree.nil)) (Tree.kids (List.getD (Tree.kids t) (Int.toNat x5) Tree.nil))))) : Int) != 0) = true → (InR ((x5 : Int) + 1)) ∧ ((InR ((x5 : Int) + 1)) ∧ (N0 (head31_0 t ((x5 : Int) + 1) ((x5 : Int) + 1) (x3 ++ ([(Tree.mk (Tree.kind (normT (Tree.mk (Tree.kind (List.getD (Tree.kids t) (Int.toNat x5) Tree.nil)) (Tree.words (List.getD (Tree.kids t) (Int.toNat x5) Tree.nil)) (Tree.kids (List.getD (Tree.kids t) (Int.toNat x5) Tree.nil))))) (Tree.words (normT (Tree.mk (Tree.kind (List.getD (Tree.kids t) (Int.toNat x5) Tree.nil)) (Tree.words (List.getD (Tree.kids t) (Int.toNat x5) Tree.nil)) (Tree.kids (List.getD (Tree.kids t) (Int.toNat x5) Tree.nil))))) (Tree.kids (normT (Tree.mk (Tree.kind (List.getD (Tree.kids t) (Int.toNat x5) Tree.nil)) (Tree.words (List.getD (Tree.kids t) (Int.toNat x5) Tree.nil)) (Tree.kids (List.getD (Tree.kids t) (Int.toNat x5) Tree.nil))))))])))))) ∧ ((((Tree.kind (normT (Tree.mk (Tree.kind (List.getD (Tree.kids t) (Int.toNat x5) Tree.nil)) (Tree.words (List.getD (Tree.kids t) (Int.toNat x5) Tree.nil)) (Tree.kids (List.getD (Tree.kids t) (Int.toNat x5) Tree.nil))))) : Int) != 0) = false → (InR ((x5 : Int) + 1)) ∧ (N0 (head31_0 t x4 ((x5 : Int) + 1) (x3 ++ ([(Tree.mk (Tree.kind (normT (Tree.mk (Tree.kind (List.getD (Tree.kids t) (Int.toNat x5) Tree.nil)) (Tree.words (List.getD (Tree.kids t) (Int.toNat x5) Tree.nil)) (Tree.kids (List.getD (Tree.kids t) (Int.toNat x5) Tree.nil))))) (Tree.words (normT (Tree.mk (Tree.kind (List.getD (Tree.kids t) (Int.toNat x5) Tree.nil)) (Tree.words (List.getD (Tree.kids t) (Int.toNat x5) Tree.nil)) (Tree.kids (List.getD (Tree.kids t) (Int.toNat x5) Tree.nil))))) (Tree.kids (normT (Tree.mk (Tree.kind (List.getD (Tree.kids t) (Int.toNat x5) Tree.nil)) (Tree.words (List.getD (Tree.kids t) (Int.toNat x5) Tree.nil)) (Tree.kids (List.getD (Tree.kids t) (Int.toNat x5) Tree.nil))))))]))))))))) ∧ ((decide ((x5 : Int) < ((Tree.kids t).length : Int))) = false → (((((Tree.kind t) : Int) == 1) = true → (pre70 ((Tree.words t), ())) ∧ (0 ≤ x4 ∧ x4 ≤ (x3.length : Int)) ∧ (Q .ret (⟨[(2, .ptr (.loc 2) 0)], [((.loc 2), [.int .i64 1, .slice (U := U) .u64 (trim (Tree.words t)) .unk, .slice (U := U) .tree (List.take (Int.toNat x4) x3) .unk])], []⟩ : LSt U))) ∧ ((((Tree.kind t) : Int) == 1) = false → (((([] : List Int).length + (Tree.words t).length) * 8 ≤ 140737488355328) ∧ ((Q .ret (⟨[(2, .ptr (.loc 2) 0)], [((.loc 2), [.int .i64 (Tree.kind t), .slice (U := U) .u64 (([] : List Int) ++ (Tree.words t)) (.own (.l 2 1)), .slice (U := U) .tree x3 (.own (.l 2 2))])], []⟩ : LSt U))))))))) :
    awp cfg (know (know31 N)) (drawOk cfg (know (know31 N))) Try.f31.ntmps lv31 (cd Try.f31 [1, 1, 1, 1, 0, 1, 0, 0]) (head31_0 t x4 x5 x3) (AExit.then N0 (AExit.inBlock 0 (seqK cfg (know (know31 N)) (drawOk cfg (know (know31 N))) Try.f31.ntmps lv31 (cd Try.f31 [1, 1, 1, 1, 1]) Q))) := by
  have e : (awp cfg (know (know31 N)) (drawOk cfg (know (know31 N))) Try.f31.ntmps lv31 (cd Try.f31 [1, 1, 1, 1, 0, 1, 0, 0]) (head31_0 t x4 x5 x3) (AExit.then N0 (AExit.inBlock 0 (seqK cfg (know (know31 N)) (drawOk cfg (know (know31 N))) Try.f31.ntmps lv31 (cd Try.f31 [1, 1, 1, 1, 1]) Q)))) = (type_of% h) := by kernel_rfl
  exact e.mpr h
def Body31 (N : Nat) (t : Tree)  : Prop := awp cfg (know (know31 N)) (drawOk cfg (know (know31 N))) Try.f31.ntmps lv31 (cd Try.f31 []) (entry (args31.can (t, ())) []) (EndsQ cfg Try.f31.ntmps Try.f31.results.toList (res31 (t, ())) [])
theorem make31 (c70 : Contract Try.prog cfg 70 spec70) (hb : ∀ (N : Nat) (t : Tree) (_ : Unit), pre31 (t, ()) → mu31 (t, ()) < N + 1 → Body31 N t) : Contract Try.prog cfg 31 spec31 :=
  contract_rec (μ := mu31) (l := [(70, spec70)]) cfgOk rfl (⟨c70, trivial⟩) lv31 Try.func31 rfl rfl 1 (fun _ => rfl) (by decide) (fun N ⟨t, _⟩ => hb N t ())
noncomputable def know32 (N : Nat) : List (FuncId × Fs U) := (32, fs args32 (fun a => [pre32 a, mu32 a < N]) res32) :: [(71, spec71)]
def lv32 : Lives U := fun i => match i with
  | 0 => ([(1, []), (2, [])], [((.loc 1), []), ((.loc 2), [])])
  | 1 => ([(1, []), (2, []), (8, [])], [((.loc 1), []), ((.loc 2), [])])
  | 2 => ([(2, [])], [((.loc 2), [])])
  | 3 => ([(1, []), (2, []), (3, [])], [((.loc 1), []), ((.loc 2), []), ((.loc 3), [])])
  | 4 => ([(1, []), (2, []), (3, []), (17, []), (18, []), (19, [])], [((.loc 1), []), ((.loc 2), []), ((.loc 3), [.any, .any, .own .tree])])
  | 5 => ([(1, []), (2, []), (3, []), (17, []), (18, []), (19, []), (20, [])], [((.loc 1), []), ((.loc 2), []), ((.loc 3), [])])
  | 6 => ([(1, []), (2, []), (3, []), (5, []), (17, []), (18, []), (19, [])], [((.loc 1), []), ((.loc 2), []), ((.loc 3), []), ((.loc 5), [])])
  | 7 => ([(1, []), (2, []), (3, []), (17, []), (18, []), (19, [])], [((.loc 1), []), ((.loc 2), []), ((.loc 3), [])])
  | 8 => ([(1, []), (2, []), (3, []), (17, []), (18, []), (19, [])], [((.loc 1), []), ((.loc 2), []), ((.loc 3), [.any, .any, .own .tree])])
  | 9 => ([(2, []), (3, []), (33, [])], [((.loc 2), []), ((.loc 3), [.any, .any, .unk .tree])])
  | 10 => ([(2, []), (3, []), (33, []), (48, [])], [((.loc 2), []), ((.loc 3), [.any, .any, .unk .tree])])
  | 11 => ([(2, []), (3, []), (33, [])], [((.loc 2), []), ((.loc 3), [.any, .any, .unk .tree])])
  | 12 => ([(2, []), (3, []), (33, []), (48, []), (72, [])], [((.loc 2), []), ((.loc 3), [])])
  | 13 => ([(2, []), (3, []), (33, []), (48, [])], [((.loc 2), []), ((.loc 3), [.any, .any, .unk .tree])])
  | 14 => ([(2, [])], [((.loc 2), [])])
  | _ => ([], [])
def head32_0 (t : Tree) (x19 : Int) (ml3_2 : List Tree) : LSt U := (⟨[(1, .ptr (.loc 1) 0), (2, .ptr (.loc 2) 0), (3, .ptr (.loc 3) 0), (17, .c (.slice (U := U) .tree (Tree.kids t) .unk)), (18, .c (.int .i64 ((Tree.kids t).length : Int))), (19, .c (.int .i64 x19))], [((.loc 1), [.int .i64 (Tree.kind t), .slice (U := U) .u64 (Tree.words t) .unk, .slice (U := U) .tree (Tree.kids t) .unk]), ((.loc 2), [.int .i64 0, .nils, .nils]), ((.loc 3), [.int .i64 (Tree.kind t), .slice (U := U) .u64 (Tree.words t) .unk, .slice (U := U) .tree ml3_2 (.own (.l 3 2))])], []⟩ : LSt U)
def head32_1 (t : Tree) (ml3_2 : List Tree) (ml3_1_a : List Int) : LSt U := (⟨[(2, .ptr (.loc 2) 0), (3, .ptr (.loc 3) 0), (33, .c (.bool (((Tree.kind t) : Int) == 1)))], [((.loc 2), [.int .i64 0, .nils, .nils]), ((.loc 3), [.int .i64 (Tree.kind t), .slice (U := U) .u64 ml3_1_a .unk, .slice (U := U) .tree ml3_2 .unk])], []⟩ : LSt U)
def head32_2 (t : Tree) (ml3_1_a : List Int) (ml3_2_b : List Tree) : LSt U := (⟨[(2, .ptr (.loc 2) 0), (3, .ptr (.loc 3) 0), (33, .c (.bool (((Tree.kind t) : Int) == 1))), (48, .c (.bool (bif (decide ((0 : Int) < (ml3_1_a.length : Int))) then (((List.getD ml3_1_a (Int.toNat (((ml3_1_a.length : Int) : Int) - 1)) (0 : Int)) : Int) == 0) else false)))], [((.loc 2), [.int .i64 0, .nils, .nils]), ((.loc 3), [.int .i64 (Tree.kind t), .slice (U := U) .u64 ml3_1_a .unk, .slice (U := U) .tree ml3_2_b .unk])], []⟩ : LSt U)
theorem vc32 (N : Nat) (t : Tree) (Q : AExit → LSt U → Prop) (h : ((((((Tree.kind t) : Int) == 0) = true → (Q .ret (⟨[(2, .ptr (.loc 2) 0)], [((.loc 2), [.int .i64 0, .nils, .nils])], []⟩ : LSt U))) ∧ ((((Tree.kind t) : Int) == 0) = false → (pre71 ((Tree.words t), ())) ∧ ((LoopWp (awp cfg (know (know32 N)) (drawOk cfg (know (know32 N))) Try.f32.ntmps lv32 (cd Try.f32 [1, 1, 1, 0, 1, 0, 0])) (head32_0 t 0 ([])) (AExit.inBlock 0 (seqK cfg (know (know32 N)) (drawOk cfg (know (know32 N))) Try.f32.ntmps lv32 (cd Try.f32 [1, 1, 1, 1]) Q)))))))) :
    awp cfg (know (know32 N)) (drawOk cfg (know (know32 N))) Try.f32.ntmps lv32 (cd Try.f32 []) (⟨[(0, .agg [.int .i64 (Tree.kind t), .slice (U := U) .u64 (Tree.words t) .unk, .slice (U := U) .tree (Tree.kids t) .unk])], [], []⟩ : LSt U) Q := by
  have e : (awp cfg (know (know32 N)) (drawOk cfg (know (know32 N))) Try.f32.ntmps lv32 (cd Try.f32 []) (⟨[(0, .agg [.int .i64 (Tree.kind t), .slice (U := U) .u64 (Tree.words t) .unk, .slice (U := U) .tree (Tree.kids t) .unk])], [], []⟩ : LSt U) Q) = (type_of% h) := by kernel_rfl
  exact e.mpr h
theorem vc32_l0 (N : Nat) (t : Tree) (x19 : Int) (ml3_2 : List Tree) (N0 : LSt U → Prop) (Q : AExit → LSt U → Prop) (h : (((decide ((x19 : Int) < ((Tree.kids t).length : Int))) = true → (0 ≤ x19 ∧ x19 < ((Tree.kids t).length : Int)) ∧ ((pre32 ((Tree.mk (Tree.kind (List.getD (Tree.kids t) (Int.toNat x19) Tree.nil)) (Tree.words (List.getD (Tree.kids t) (Int.toNat x19) Tree.nil)) (Tree.kids (List.getD (Tree.kids t) (Int.toNat x19) Tree.nil))), ())) ∧ (mu32 ((Tree.mk (Tree.kind (List.getD (Tree.kids t) (Int.toNat x19) Tree.nil)) (Tree.words (List.getD (Tree.kids t) (Int.toNat x19) Tree.nil)) (Tree.kids (List.getD (Tree.kids t) (Int.toNat x19) Tree.nil))), ()) < N) ∧ ((ml3_2.length + ([(Tree.mk (Tree.kind (normT (Tree.mk (Tree.kind (List.getD (Tree.kids t) (Int.toNat x19) Tree.nil)) (Tree.words (List.getD (Tree.kids t) (Int.toNat x19) Tree.nil)) (Tree.kids (List.getD (Tree.kids t) (Int.toNat x19) Tree.nil))))) (Tree.words (normT (Tree.mk (Tree.kind (List.getD (Tree.kids t) (Int.toNat x19) Tree.nil)) (Tree.words (List.getD (Tree.kids t) (Int.toNat x19) Tree.nil)) (Tree.kids (List.getD (Tree.kids t) (Int.toNat x19) Tree.nil))))) (Tree.kids (normT (Tree.mk (Tree.kind (List.getD (Tree.kids t) (Int.toNat x19) Tree.nil)) (Tree.words (List.getD (Tree.kids t) (Int.toNat x19) Tree.nil)) (Tree.kids (List.getD (Tree.kids t) (Int.toNat x19) Tree.nil))))))]).length) * 56 ≤ 140737488355328) ∧ ((InR ((x19 : Int) + 1)) ∧ (N0 (head32_0 t ((x19 : Int) + 1) (ml3_2 ++ ([(Tree.mk (Tree.kind (normT (Tree.mk (Tree.kind (List.getD (Tree.kids t) (Int.toNat x19) Tree.nil)) (Tree.words (List.getD (Tree.kids t) (Int.toNat x19) Tree.nil)) (Tree.kids (List.getD (Tree.kids t) (Int.toNat x19) Tree.nil))))) (Tree.words (normT (Tree.mk (Tree.kind (List.getD (Tree.kids t) (Int.toNat x19) Tree.nil)) (Tree.words (List.getD (Tree.kids t) (Int.toNat x19) Tree.nil)) (Tree.kids (List.getD (Tree.kids t) (Int.toNat x19) Tree.nil))))) (Tree.kids (normT (Tree.mk (Tree.kind (List.getD (Tree.kids t) (Int.toNat x19) Tree.nil)) (Tree.words (List.getD (Tree.kids t) (Int.toNat x19) Tree.nil)) (Tree.kids (List.getD (Tree.kids t) (Int.toNat x19) Tree.nil))))))]))))))) ∧ ((decide ((x19 : Int) < ((Tree.kids t).length : Int))) = false → (((((Tree.kind t) : Int) == 1) = true → LoopWp (awp cfg (know (know32 N)) (drawOk cfg (know (know32 N))) Try.f32.ntmps lv32 (cd Try.f32 [1, 1, 1, 1, 0, 1, 0, 0, 0, 0])) (head32_1 t ml3_2 (Tree.words t)) (AExit.inBlock 2 (seqK cfg (know (know32 N)) (drawOk cfg (know (know32 N))) Try.f32.ntmps lv32 (cd Try.f32 [1, 1, 1, 1, 0, 1, 0, 1]) (seqK cfg (know (know32 N)) (drawOk cfg (know (know32 N))) Try.f32.ntmps lv32 (cd Try.f32 [1, 1, 1, 1, 1]) Q)))) ∧ ((((Tree.kind t) : Int) == 1) = false → (Q .ret (⟨[(2, .ptr (.loc 2) 0)], [((.loc 2), [.int .i64 (Tree.kind t), .slice (U := U) .u64 (Tree.words t) .unk, .slice (U := U) .tree ml3_2 .unk])], []⟩ : LSt U))))))) :
    awp cfg (know (know32 N)) (drawOk cfg (know (know32 N))) Try.f32.ntmps lv32 (cd Try.f32 [1, 1, 1, 0, 1, 0, 0]) (head32_0 t x19 ml3_2) (AExit.then N0 (AExit.inBlock 0 (seqK cfg (know (know32 N)) (drawOk cfg (know (know32 N))) Try.f32.ntmps lv32 (cd Try.f32 [1, 1, 1, 1]) Q))) := by
  have e : (awp cfg (know (know32 N)) (drawOk cfg (know (know32 N))) Try.f32.ntmps lv32 (cd Try.f32 [1, 1, 1, 0, 1, 0, 0]) (head32_0 t x19 ml3_2) (AExit.then N0 (AExit.inBlock 0 (seqK cfg (know (know32 N)) (drawOk cfg (know (know32 N))) Try.f32.ntmps lv32 (cd Try.f32 [1, 1, 1, 1]) Q)))) = (type_of% h) := by kernel_rfl
  exact e.mpr h
theorem vc32_l1 (N : Nat) (t : Tree) (ml3_2 : List Tree) (ml3_1_a : List Int) (N1 : LSt U → Prop) (Q : AExit → LSt U → Prop) (h : ((decide ((0 : Int) < (ml3_1_a.length : Int))) = true → (decide ((0 : Int) < (ml3_1_a.length : Int))) = true) ∧ ((decide ((0 : Int) < (ml3_1_a.length : Int))) = true → (decide ((0 : Int) < (ml3_1_a.length : Int))) = true) ∧ ((decide ((0 : Int) < (ml3_1_a.length : Int))) = true → (decide ((0 : Int) < (ml3_1_a.length : Int))) = true) ∧ ((decide ((0 : Int) < (ml3_1_a.length : Int))) = true → (decide ((0 : Int) < (ml3_1_a.length : Int))) = true) ∧ ((decide ((0 : Int) < (ml3_1_a.length : Int))) = true → InR (((ml3_1_a.length : Int) : Int) - 1)) ∧ ((decide ((0 : Int) < (ml3_1_a.length : Int))) = true → (decide ((0 : Int) < (ml3_1_a.length : Int))) = true) ∧ ((decide ((0 : Int) < (ml3_1_a.length : Int))) = true → (decide ((0 : Int) < (ml3_1_a.length : Int))) = true) ∧ ((decide ((0 : Int) < (ml3_1_a.length : Int))) = true → 0 ≤ (((ml3_1_a.length : Int) : Int) - 1) ∧ (((ml3_1_a.length : Int) : Int) - 1) < (ml3_1_a.length : Int)) ∧ ((decide ((0 : Int) < (ml3_1_a.length : Int))) = true → (decide ((0 : Int) < (ml3_1_a.length : Int))) = true) ∧ ((decide ((0 : Int) < (ml3_1_a.length : Int))) = true → (decide ((0 : Int) < (ml3_1_a.length : Int))) = true) ∧ (((decide ((0 : Int) < (ml3_1_a.length : Int))) = true → (decide ((0 : Int) < (ml3_1_a.length : Int))) = true)) ∧ (((bif (decide ((0 : Int) < (ml3_1_a.length : Int))) then (((List.getD ml3_1_a (Int.toNat (((ml3_1_a.length : Int) : Int) - 1)) (0 : Int)) : Int) == 0) else false) = true → (InR (((ml3_1_a.length : Int) : Int) - 1)) ∧ (0 ≤ (((ml3_1_a.length : Int) : Int) - 1) ∧ (((ml3_1_a.length : Int) : Int) - 1) ≤ (ml3_1_a.length : Int)) ∧ (N1 (head32_1 t ml3_2 (List.take (Int.toNat (((ml3_1_a.length : Int) : Int) - 1)) ml3_1_a)))) ∧ ((bif (decide ((0 : Int) < (ml3_1_a.length : Int))) then (((List.getD ml3_1_a (Int.toNat (((ml3_1_a.length : Int) : Int) - 1)) (0 : Int)) : Int) == 0) else false) = false → LoopWp (awp cfg (know (know32 N)) (drawOk cfg (know (know32 N))) Try.f32.ntmps lv32 (cd Try.f32 [1, 1, 1, 1, 0, 1, 0, 1, 0, 0])) (head32_2 t ml3_1_a ml3_2) (AExit.inBlock 4 (seqK cfg (know (know32 N)) (drawOk cfg (know (know32 N))) Try.f32.ntmps lv32 (cd Try.f32 [1, 1, 1, 1, 1]) Q))))) :
    awp cfg (know (know32 N)) (drawOk cfg (know (know32 N))) Try.f32.ntmps lv32 (cd Try.f32 [1, 1, 1, 1, 0, 1, 0, 0, 0, 0]) (head32_1 t ml3_2 ml3_1_a) (AExit.then N1 (AExit.inBlock 2 (seqK cfg (know (know32 N)) (drawOk cfg (know (know32 N))) Try.f32.ntmps lv32 (cd Try.f32 [1, 1, 1, 1, 0, 1, 0, 1]) (seqK cfg (know (know32 N)) (drawOk cfg (know (know32 N))) Try.f32.ntmps lv32 (cd Try.f32 [1, 1, 1, 1, 1]) Q)))) := by
  have e : (awp cfg (know (know32 N)) (drawOk cfg (know (know32 N))) Try.f32.ntmps lv32 (cd Try.f32 [1, 1, 1, 1, 0, 1, 0, 0, 0, 0]) (head32_1 t ml3_2 ml3_1_a) (AExit.then N1 (AExit.inBlock 2 (seqK cfg (know (know32 N)) (drawOk cfg (know (know32 N))) Try.f32.ntmps lv32 (cd Try.f32 [1, 1, 1, 1, 0, 1, 0, 1]) (seqK cfg (know (know32 N)) (drawOk cfg (know (know32 N))) Try.f32.ntmps lv32 (cd Try.f32 [1, 1, 1, 1, 1]) Q))))) = (type_of% h) := by kernel_rfl
  exact e.mpr h
theorem vc32_l2 (N : Nat) (t : Tree) (ml3_1_a : List Int) (ml3_2_b : List Tree) (N2 : LSt U → Prop) (Q : AExit → LSt U → Prop) (h : ((decide ((0 : Int) < (ml3_2_b.length : Int))) = true → (decide ((0 : Int) < (ml3_2_b.length : Int))) = true) ∧ ((decide ((0 : Int) < (ml3_2_b.length : Int))) = true → (decide ((0 : Int) < (ml3_2_b.length : Int))) = true) ∧ ((decide ((0 : Int) < (ml3_2_b.length : Int))) = true → (decide ((0 : Int) < (ml3_2_b.length : Int))) = true) ∧ ((decide ((0 : Int) < (ml3_2_b.length : Int))) = true → (decide ((0 : Int) < (ml3_2_b.length : Int))) = true) ∧ ((decide ((0 : Int) < (ml3_2_b.length : Int))) = true → InR (((ml3_2_b.length : Int) : Int) - 1)) ∧ ((decide ((0 : Int) < (ml3_2_b.length : Int))) = true → (decide ((0 : Int) < (ml3_2_b.length : Int))) = true) ∧ ((decide ((0 : Int) < (ml3_2_b.length : Int))) = true → (decide ((0 : Int) < (ml3_2_b.length : Int))) = true) ∧ ((decide ((0 : Int) < (ml3_2_b.length : Int))) = true → 0 ≤ (((ml3_2_b.length : Int) : Int) - 1) ∧ (((ml3_2_b.length : Int) : Int) - 1) < (ml3_2_b.length : Int)) ∧ ((decide ((0 : Int) < (ml3_2_b.length : Int))) = true → (decide ((0 : Int) < (ml3_2_b.length : Int))) = true) ∧ ((decide ((0 : Int) < (ml3_2_b.length : Int))) = true → (decide ((0 : Int) < (ml3_2_b.length : Int))) = true) ∧ ((decide ((0 : Int) < (ml3_2_b.length : Int))) = true → (decide ((0 : Int) < (ml3_2_b.length : Int))) = true) ∧ (((decide ((0 : Int) < (ml3_2_b.length : Int))) = true → (decide ((0 : Int) < (ml3_2_b.length : Int))) = true)) ∧ (((bif (decide ((0 : Int) < (ml3_2_b.length : Int))) then (((Tree.kind (List.getD ml3_2_b (Int.toNat (((ml3_2_b.length : Int) : Int) - 1)) Tree.nil)) : Int) == 0) else false) = true → (InR (((ml3_2_b.length : Int) : Int) - 1)) ∧ (0 ≤ (((ml3_2_b.length : Int) : Int) - 1) ∧ (((ml3_2_b.length : Int) : Int) - 1) ≤ (ml3_2_b.length : Int)) ∧ (N2 (head32_2 t ml3_1_a (List.take (Int.toNat (((ml3_2_b.length : Int) : Int) - 1)) ml3_2_b)))) ∧ ((bif (decide ((0 : Int) < (ml3_2_b.length : Int))) then (((Tree.kind (List.getD ml3_2_b (Int.toNat (((ml3_2_b.length : Int) : Int) - 1)) Tree.nil)) : Int) == 0) else false) = false → (Q .ret (⟨[(2, .ptr (.loc 2) 0)], [((.loc 2), [.int .i64 (Tree.kind t), .slice (U := U) .u64 ml3_1_a .unk, .slice (U := U) .tree ml3_2_b .unk])], []⟩ : LSt U))))) :
    awp cfg (know (know32 N)) (drawOk cfg (know (know32 N))) Try.f32.ntmps lv32 (cd Try.f32 [1, 1, 1, 1, 0, 1, 0, 1, 0, 0]) (head32_2 t ml3_1_a ml3_2_b) (AExit.then N2 (AExit.inBlock 4 (seqK cfg (know (know32 N)) (drawOk cfg (know (know32 N))) Try.f32.ntmps lv32 (cd Try.f32 [1, 1, 1, 1, 1]) Q))) := by
  have e : (awp cfg (know (know32 N)) (drawOk cfg (know (know32 N))) Try.f32.ntmps lv32 (cd Try.f32 [1, 1, 1, 1, 0, 1, 0, 1, 0, 0]) (head32_2 t ml3_1_a ml3_2_b) (AExit.then N2 (AExit.inBlock 4 (seqK cfg (know (know32 N)) (drawOk cfg (know (know32 N))) Try.f32.ntmps lv32 (cd Try.f32 [1, 1, 1, 1, 1]) Q)))) = (type_of% h) := by kernel_rfl
  exact e.mpr h
def Body32 (N : Nat) (t : Tree)  : Prop := awp cfg (know (know32 N)) (drawOk cfg (know (know32 N))) Try.f32.ntmps lv32 (cd Try.f32 []) (entry (args32.can (t, ())) []) (EndsQ cfg Try.f32.ntmps Try.f32.results.toList (res32 (t, ())) [])
theorem make32 (c71 : Contract Try.prog cfg 71 spec71) (hb : ∀ (N : Nat) (t : Tree) (_ : Unit), pre32 (t, ()) → mu32 (t, ()) < N + 1 → Body32 N t) : Contract Try.prog cfg 32 spec32 :=
  contract_rec (μ := mu32) (l := [(71, spec71)]) cfgOk rfl (⟨c71, trivial⟩) lv32 Try.func32 rfl rfl 1 (fun _ => rfl) (by decide) (fun N ⟨t, _⟩ => hb N t ())
noncomputable def know33 (N : Nat) : List (FuncId × Fs U) := (33, fs args33 (fun a => [pre33 a, mu33 a < N]) res33) :: [(69, spec69)]
def lv33 : Lives U := fun i => match i with
  | 0 => ([(2, []), (3, [])], [((.loc 2), []), ((.loc 3), [])])
  | 1 => ([(2, []), (3, []), (27, [])], [((.loc 2), []), ((.loc 3), [])])
  | 2 => ([(4, [])], [])
  | 3 => ([(2, []), (3, []), (5, [])], [((.loc 2), []), ((.loc 3), [])])
  | 4 => ([(2, []), (3, []), (5, []), (32, [])], [((.loc 2), []), ((.loc 3), [])])
  | 5 => ([(2, []), (3, []), (5, [])], [((.loc 2), []), ((.loc 3), [])])
  | 6 => ([(2, []), (3, []), (5, []), (46, [])], [((.loc 2), []), ((.loc 3), [])])
  | 7 => ([(4, [])], [])
  | 8 => ([(4, [])], [])
  | _ => ([], [])
def head33_0 (a : Tree) (b : Tree) (x5 : Int) : LSt U := (⟨[(2, .ptr (.loc 2) 0), (3, .ptr (.loc 3) 0), (5, .c (.int .i64 x5))], [((.loc 2), [.int .i64 (Tree.kind a), .slice (U := U) .u64 (Tree.words a) .unk, .slice (U := U) .tree (Tree.kids a) .unk]), ((.loc 3), [.int .i64 (Tree.kind b), .slice (U := U) .u64 (Tree.words b) .unk, .slice (U := U) .tree (Tree.kids b) .unk])], []⟩ : LSt U)
theorem vc33 (N : Nat) (a : Tree) (b : Tree) (Q : AExit → LSt U → Prop) (h : (((!(((Tree.kind a) : Int) != (Tree.kind b))) = true → (!(((Tree.kind a) : Int) != (Tree.kind b))) = true) ∧ ((!(((Tree.kind a) : Int) != (Tree.kind b))) = true → (!(((Tree.kind a) : Int) != (Tree.kind b))) = true) ∧ ((!(((Tree.kind a) : Int) != (Tree.kind b))) = true → (!(((Tree.kind a) : Int) != (Tree.kind b))) = true) ∧ ((!(((Tree.kind a) : Int) != (Tree.kind b))) = true → (!(((Tree.kind a) : Int) != (Tree.kind b))) = true) ∧ ((!(((Tree.kind a) : Int) != (Tree.kind b))) = true → pre69 ((Tree.words a), (Tree.words b), ())) ∧ ((!(((Tree.kind a) : Int) != (Tree.kind b))) = true → (!(((Tree.kind a) : Int) != (Tree.kind b))) = true) ∧ (((((Tree.kind a) : Int) != (Tree.kind b)) = false → (!(((Tree.kind a) : Int) != (Tree.kind b))) = true)) ∧ ((!(bif (((Tree.kind a) : Int) != (Tree.kind b)) then true else (!(decide ((Tree.words a) = (Tree.words b)))))) = true → (!(bif (((Tree.kind a) : Int) != (Tree.kind b)) then true else (!(decide ((Tree.words a) = (Tree.words b)))))) = true) ∧ ((!(bif (((Tree.kind a) : Int) != (Tree.kind b)) then true else (!(decide ((Tree.words a) = (Tree.words b)))))) = true → (!(bif (((Tree.kind a) : Int) != (Tree.kind b)) then true else (!(decide ((Tree.words a) = (Tree.words b)))))) = true) ∧ ((!(bif (((Tree.kind a) : Int) != (Tree.kind b)) then true else (!(decide ((Tree.words a) = (Tree.words b)))))) = true → (!(bif (((Tree.kind a) : Int) != (Tree.kind b)) then true else (!(decide ((Tree.words a) = (Tree.words b)))))) = true) ∧ ((!(bif (((Tree.kind a) : Int) != (Tree.kind b)) then true else (!(decide ((Tree.words a) = (Tree.words b)))))) = true → (!(bif (((Tree.kind a) : Int) != (Tree.kind b)) then true else (!(decide ((Tree.words a) = (Tree.words b)))))) = true) ∧ ((!(bif (((Tree.kind a) : Int) != (Tree.kind b)) then true else (!(decide ((Tree.words a) = (Tree.words b)))))) = true → (!(bif (((Tree.kind a) : Int) != (Tree.kind b)) then true else (!(decide ((Tree.words a) = (Tree.words b)))))) = true) ∧ ((!(bif (((Tree.kind a) : Int) != (Tree.kind b)) then true else (!(decide ((Tree.words a) = (Tree.words b)))))) = true → (!(bif (((Tree.kind a) : Int) != (Tree.kind b)) then true else (!(decide ((Tree.words a) = (Tree.words b)))))) = true) ∧ (((bif (((Tree.kind a) : Int) != (Tree.kind b)) then true else (!(decide ((Tree.words a) = (Tree.words b))))) = false → (!(bif (((Tree.kind a) : Int) != (Tree.kind b)) then true else (!(decide ((Tree.words a) = (Tree.words b)))))) = true)) ∧ (((bif (bif (((Tree.kind a) : Int) != (Tree.kind b)) then true else (!(decide ((Tree.words a) = (Tree.words b))))) then true else ((((Tree.kids a).length : Int) : Int) != ((Tree.kids b).length : Int))) = true → (Q .ret (⟨[(4, .c (.bool false))], [], []⟩ : LSt U))) ∧ ((bif (bif (((Tree.kind a) : Int) != (Tree.kind b)) then true else (!(decide ((Tree.words a) = (Tree.words b))))) then true else ((((Tree.kids a).length : Int) : Int) != ((Tree.kids b).length : Int))) = false → (LoopWp (awp cfg (know (know33 N)) (drawOk cfg (know (know33 N))) Try.f33.ntmps lv33 (cd Try.f33 [1, 1, 0, 1, 0, 0])) (head33_0 a b 0) (AExit.inBlock 0 (seqK cfg (know (know33 N)) (drawOk cfg (know (know33 N))) Try.f33.ntmps lv33 (cd Try.f33 [1, 1, 1]) Q))))))) :
    awp cfg (know (know33 N)) (drawOk cfg (know (know33 N))) Try.f33.ntmps lv33 (cd Try.f33 []) (⟨[(0, .agg [.int .i64 (Tree.kind a), .slice (U := U) .u64 (Tree.words a) .unk, .slice (U := U) .tree (Tree.kids a) .unk]), (1, .agg [.int .i64 (Tree.kind b), .slice (U := U) .u64 (Tree.words b) .unk, .slice (U := U) .tree (Tree.kids b) .unk])], [], []⟩ : LSt U) Q := by
  have e : (awp cfg (know (know33 N)) (drawOk cfg (know (know33 N))) Try.f33.ntmps lv33 (cd Try.f33 []) (⟨[(0, .agg [.int .i64 (Tree.kind a), .slice (U := U) .u64 (Tree.words a) .unk, .slice (U := U) .tree (Tree.kids a) .unk]), (1, .agg [.int .i64 (Tree.kind b), .slice (U := U) .u64 (Tree.words b) .unk, .slice (U := U) .tree (Tree.kids b) .unk])], [], []⟩ : LSt U) Q) = (type_of% h) := by kernel_rfl
  exact e.mpr h
theorem vc33_l0 (N : Nat) (a : Tree) (b : Tree) (x5 : Int) (N0 : LSt U → Prop) (Q : AExit → LSt U → Prop) (h : (((decide ((x5 : Int) < ((Tree.kids a).length : Int))) = true → (0 ≤ x5 ∧ x5 < ((Tree.kids a).length : Int)) ∧ (0 ≤ x5 ∧ x5 < ((Tree.kids b).length : Int)) ∧ (pre33 ((Tree.mk (Tree.kind (List.getD (Tree.kids a) (Int.toNat x5) Tree.nil)) (Tree.words (List.getD (Tree.kids a) (Int.toNat x5) Tree.nil)) (Tree.kids (List.getD (Tree.kids a) (Int.toNat x5) Tree.nil))), (Tree.mk (Tree.kind (List.getD (Tree.kids b) (Int.toNat x5) Tree.nil)) (Tree.words (List.getD (Tree.kids b) (Int.toNat x5) Tree.nil)) (Tree.kids (List.getD (Tree.kids b) (Int.toNat x5) Tree.nil))), ())) ∧ (mu33 ((Tree.mk (Tree.kind (List.getD (Tree.kids a) (Int.toNat x5) Tree.nil)) (Tree.words (List.getD (Tree.kids a) (Int.toNat x5) Tree.nil)) (Tree.kids (List.getD (Tree.kids a) (Int.toNat x5) Tree.nil))), (Tree.mk (Tree.kind (List.getD (Tree.kids b) (Int.toNat x5) Tree.nil)) (Tree.words (List.getD (Tree.kids b) (Int.toNat x5) Tree.nil)) (Tree.kids (List.getD (Tree.kids b) (Int.toNat x5) Tree.nil))), ()) < N) ∧ (((!(sameT (Tree.mk (Tree.kind (List.getD (Tree.kids a) (Int.toNat x5) Tree.nil)) (Tree.words (List.getD (Tree.kids a) (Int.toNat x5) Tree.nil)) (Tree.kids (List.getD (Tree.kids a) (Int.toNat x5) Tree.nil))) (Tree.mk (Tree.kind (List.getD (Tree.kids b) (Int.toNat x5) Tree.nil)) (Tree.words (List.getD (Tree.kids b) (Int.toNat x5) Tree.nil)) (Tree.kids (List.getD (Tree.kids b) (Int.toNat x5) Tree.nil))))) = true → (Q .ret (⟨[(4, .c (.bool false))], [], []⟩ : LSt U))) ∧ ((!(sameT (Tree.mk (Tree.kind (List.getD (Tree.kids a) (Int.toNat x5) Tree.nil)) (Tree.words (List.getD (Tree.kids a) (Int.toNat x5) Tree.nil)) (Tree.kids (List.getD (Tree.kids a) (Int.toNat x5) Tree.nil))) (Tree.mk (Tree.kind (List.getD (Tree.kids b) (Int.toNat x5) Tree.nil)) (Tree.words (List.getD (Tree.kids b) (Int.toNat x5) Tree.nil)) (Tree.kids (List.getD (Tree.kids b) (Int.toNat x5) Tree.nil))))) = false → (InR ((x5 : Int) + 1)) ∧ (N0 (head33_0 a b ((x5 : Int) + 1)))))) ∧ ((decide ((x5 : Int) < ((Tree.kids a).length : Int))) = false → (Q .ret (⟨[(4, .c (.bool true))], [], []⟩ : LSt U))))) :
    awp cfg (know (know33 N)) (drawOk cfg (know (know33 N))) Try.f33.ntmps lv33 (cd Try.f33 [1, 1, 0, 1, 0, 0]) (head33_0 a b x5) (AExit.then N0 (AExit.inBlock 0 (seqK cfg (know (know33 N)) (drawOk cfg (know (know33 N))) Try.f33.ntmps lv33 (cd Try.f33 [1, 1, 1]) Q))) := by
  have e : (awp cfg (know (know33 N)) (drawOk cfg (know (know33 N))) Try.f33.ntmps lv33 (cd Try.f33 [1, 1, 0, 1, 0, 0]) (head33_0 a b x5) (AExit.then N0 (AExit.inBlock 0 (seqK cfg (know (know33 N)) (drawOk cfg (know (know33 N))) Try.f33.ntmps lv33 (cd Try.f33 [1, 1, 1]) Q)))) = (type_of% h) := by kernel_rfl
  exact e.mpr h
def Body33 (N : Nat) (a : Tree) (b : Tree)  : Prop := awp cfg (know (know33 N)) (drawOk cfg (know (know33 N))) Try.f33.ntmps lv33 (cd Try.f33 []) (entry (args33.can (a, b, ())) []) (EndsQ cfg Try.f33.ntmps Try.f33.results.toList (res33 (a, b, ())) [])
theorem make33 (c69 : Contract Try.prog cfg 69 spec69) (hb : ∀ (N : Nat) (a : Tree) (b : Tree) (_ : Unit), pre33 (a, b, ()) → mu33 (a, b, ()) < N + 1 → Body33 N a b) : Contract Try.prog cfg 33 spec33 :=
  contract_rec (μ := mu33) (l := [(69, spec69)]) cfgOk rfl (⟨c69, trivial⟩) lv33 Try.func33 rfl rfl 2 (fun _ => rfl) (by decide) (fun N ⟨a, b, _⟩ => hb N a b ())
end Go.AM.Ytlahjnelghpmeaa

namespace Go.AM.Ytlahjnelghpmeaa
open Go.AM Go.Proofs
theorem smallK_get : ∀ {ks : List Tree} {i : Nat}, smallK ks → i < ks.length → small (ks.getD i Tree.nil)
  | t :: _, 0, h, _ => by simp only [smallK] at h; exact h.1
  | _ :: r, i + 1, h, hi => by simp only [smallK] at h; exact smallK_get (ks := r) (i := i) h.2 (by simpa using hi)
theorem massK_get : ∀ {ks : List Tree} {i : Nat}, i < ks.length → mass (ks.getD i Tree.nil) ≤ massK ks
  | t :: _, 0, _ => by simp only [massK, List.getD_cons_zero]; omega
  | t :: r, i + 1, h => by
    have := massK_get (ks := r) (i := i) (by simpa using h)
    simp only [massK, List.getD_cons_succ]
    omega
mutual
theorem shallow_range : ∀ (t : Tree) (d l : Int), -1 ≤ shallow t d l ∧ shallow t d l ≤ max l (-1)
  | .mk _ w ks, d, l => by
    simp only [shallow]
    split
    · omega
    · have := shallowK_range ks (d - 1) (l - 1 - w.length) (by omega)
      omega
theorem shallowK_range : ∀ (ks : List Tree) (d l : Int), -1 ≤ l → -1 ≤ shallowK ks d l ∧ shallowK ks d l ≤ l
  | [], d, l, h => by simp only [shallowK]; omega
  | t :: r, d, l, h => by
    simp only [shallowK]
    split
    · omega
    · have h1 := shallow_range t d l
      have h2 := shallowK_range r d (shallow t d l) h1.1
      omega
end
theorem shallowK_drop {ks : List Tree} {i : Nat} {d l : Int} (h : i < ks.length) (hl : 0 ≤ l) : shallowK (ks.drop i) d l = shallowK (ks.drop (i + 1)) d (shallow (ks.getD i Tree.nil) d l) := by
  rw [List.drop_eq_getElem_cons h]
  simp only [shallowK]
  rw [if_neg (by omega)]
  simp [List.getD, h]
theorem c68 : Contract Try.prog cfg 68 spec68 := by
  refine make68 ?_
  rintro N ⟨k, ws, ks⟩ d l _ ⟨hs, h1, h2, h3, h4⟩ hN
  simp only [small, mu68, mass] at *
  refine vc68 N _ _ _ _ ?_
  (simp only [vcS])
  (simp only [Tree.eta, Edit.eta, Tree.kind_mk, Tree.words_mk, Tree.kids_mk])
  refine ⟨by unfold InR; omega, by unfold InR; omega, by omega, by omega, fun hc => ?_, fun hc => ?_⟩
  · have e : shallow (.mk k ws ks) d l = -1 := by
      simp only [shallow]
      rw [if_pos (by omega)]
    simp only [res68, e]
    exact ⟨⟨rfl, ⟨⟨rfl, rfl⟩, trivial⟩, trivial⟩, trivial⟩
  · have e : shallow (.mk k ws ks) d l = shallowK ks (d - 1) (l - 1 - ws.length) := by
      simp only [shallow]
      rw [if_neg (by omega)]
    simp only [res68, e]
    refine loop_rule (ι := Int × Int) (fun p => head68_0 (.mk k ws ks) d l p.1 p.2) (fun p => 0 ≤ p.2 ∧ p.2 ≤ ks.length ∧ -1 ≤ p.1 ∧ p.1 ≤ l ∧ shallowK (ks.drop p.2.toNat) (d - 1) p.1 = shallowK ks (d - 1) (l - 1 - ws.length)) (fun p => ((ks.length : Int) - p.2).toNat) (l - 1 - ws.length, 0) rfl ⟨by omega, by omega, by omega, by omega, by simp⟩ ?_
    rintro ⟨l', i⟩ ⟨h5, h6, h7, h8, h9⟩
    dsimp only at *
    refine vc68_l0 N _ _ _ _ _ _ _ ?_
    (simp only [vcS])
    (simp only [Tree.eta, Edit.eta, Tree.kind_mk, Tree.words_mk, Tree.kids_mk])
    refine ⟨by omega, by omega, fun hc => ?_, fun hc => ?_⟩
    · have hi : i.toNat < ks.length := by omega
      have hr := shallow_range (ks.getD i.toNat Tree.nil) (d - 1) l'
      have hn := massK_get hi
      have hd := shallowK_drop (d := d - 1) hi hc.2
      refine ⟨by omega, by unfold InR; omega, ⟨smallK_get hs.2.2 hi, by dsimp only; omega, by dsimp only; omega, by dsimp only; omega, by dsimp only; omega⟩, by simp only [mu68]; omega, by unfold InR; omega, ⟨(shallow (ks.getD i.toNat Tree.nil) (d - 1) l', i + 1), rfl, ⟨by dsimp only; omega, by dsimp only; omega, by dsimp only; omega, by dsimp only; omega, ?_⟩, by dsimp only; omega⟩⟩
      dsimp only
      rw [← h9, hd]
      congr 2
      omega
    · have e : shallowK ks (d - 1) (l - 1 - ws.length) = l' := by
        rw [← h9]
        by_cases hi : i < ks.length
        · rw [List.drop_eq_getElem_cons (by omega)]
          simp only [shallowK]
          rw [if_pos (by omega)]
        · rw [List.drop_eq_nil_of_le (by omega)]
          simp only [shallowK]
      rw [e]
      exact ⟨⟨rfl, ⟨⟨rfl, rfl⟩, trivial⟩, trivial⟩, trivial⟩
theorem c71 : Contract Try.prog cfg 71 spec71 := by
  refine make71 ?_
  intro l _ hp
  refine vc71 _ _ ?_
  simp only [pre71] at hp
  refine ⟨fun h => ?_, fun _ => ⟨by simp only [List.length_nil]; omega, ?_⟩⟩
  · subst h
    exact ⟨⟨rfl, ⟨rfl, trivial⟩, trivial⟩, trivial⟩
  · exact ⟨⟨rfl, ⟨⟨rfl, trivial⟩, trivial⟩, trivial⟩, trivial⟩
theorem drop_eq {a b : List Int} {i : Int} (hi : 0 ≤ i) (ha : i < a.length) (hb : i < b.length) : (a.drop i.toNat = b.drop i.toNat) ↔ (a.getD i.toNat 0 = b.getD i.toNat 0 ∧ a.drop (i + 1).toNat = b.drop (i + 1).toNat) := by
  have e : (i + 1).toNat = i.toNat + 1 := by omega
  rw [List.drop_eq_getElem_cons (by omega), List.drop_eq_getElem_cons (l := b) (by omega), e]
  simp only [List.cons.injEq, List.getD, List.getElem?_eq_getElem (show i.toNat < a.length by omega), List.getElem?_eq_getElem (show i.toNat < b.length by omega), Option.getD_some]
theorem c69 : Contract Try.prog cfg 69 spec69 := by
  refine make69 ?_
  intro a b _ hp
  simp only [pre69] at hp
  refine vc69 _ _ _ ?_
  (simp only [vcS])
  refine ⟨fun hc => ?_, fun hc => ?_⟩
  · have e : decide (a = b) = false := by
      simp only [decide_eq_false_iff_not]
      rintro rfl
      omega
    simp only [res69, e]
    exact ⟨⟨rfl, ⟨rfl, trivial⟩, trivial⟩, trivial⟩
  · have hl : a.length = b.length := by omega
    refine loop_rule (ι := Int) (fun p => head69_0 a b p) (fun p => 0 ≤ p ∧ p ≤ a.length ∧ (a = b ↔ a.drop p.toNat = b.drop p.toNat)) (fun p => ((a.length : Int) - p).toNat) 0 rfl ⟨by omega, by omega, by simp⟩ ?_
    rintro i ⟨h1, h2, h3⟩
    refine vc69_l0 _ _ _ _ _ ?_
    (simp only [vcS])
    refine ⟨fun hc => ⟨by omega, by omega, fun hn => ?_, fun he => ⟨by unfold InR; omega, i + 1, rfl, ⟨by omega, by omega, ?_⟩, by omega⟩⟩, fun hc => ?_⟩
    · have e : decide (a = b) = false := by
        simp only [decide_eq_false_iff_not, h3]
        rw [drop_eq h1 hc (by omega)]
        exact fun h => hn h.1
      simp only [res69, e]
      exact ⟨⟨rfl, ⟨rfl, trivial⟩, trivial⟩, trivial⟩
    · rw [h3, drop_eq h1 hc (by omega)]
      exact ⟨fun h => h.2, fun h => ⟨by simpa using he, h⟩⟩
    · have e : decide (a = b) = true := by
        simp only [decide_eq_true_eq, h3]
        rw [List.drop_eq_nil_of_le (by omega), List.drop_eq_nil_of_le (by omega)]
      simp only [res69, e]
      exact ⟨⟨rfl, ⟨rfl, trivial⟩, trivial⟩, trivial⟩
theorem dropT_eq {a b : List Tree} {i : Int} (hi : 0 ≤ i) (ha : i < a.length) (hb : i < b.length) : (a.drop i.toNat = b.drop i.toNat) ↔ (a.getD i.toNat Tree.nil = b.getD i.toNat Tree.nil ∧ a.drop (i + 1).toNat = b.drop (i + 1).toNat) := by
  have e : (i + 1).toNat = i.toNat + 1 := by omega
  rw [List.drop_eq_getElem_cons (by omega), List.drop_eq_getElem_cons (l := b) (by omega), e]
  simp only [List.cons.injEq, List.getD, List.getElem?_eq_getElem (show i.toNat < a.length by omega), List.getElem?_eq_getElem (show i.toNat < b.length by omega), Option.getD_some]
theorem sameT_true {a b : Tree} : sameT a b = true ↔ a = b := by simp [sameT]
theorem sameT_false {a b : Tree} : sameT a b = false ↔ ¬ a = b := by simp [sameT]
theorem massK_len : ∀ (ks : List Tree), ks.length ≤ massK ks
  | [] => by simp [massK]
  | t :: r => by
    have := massK_len r
    have : 1 ≤ mass t := by cases t; simp only [mass]; omega
    simp only [massK, List.length_cons]
    omega
theorem c33 : Contract Try.prog cfg 33 spec33 := by
  refine make33 c69 ?_
  rintro N ⟨k, ws, ks⟩ ⟨k', ws', ks'⟩ _ hp hN
  have hlen := massK_len ks
  simp only [pre33, mu33, mass] at hp hN
  refine vc33 N _ _ _ ?_
  (simp only [vcS])
  (simp only [Tree.eta, Edit.eta, Tree.kind_mk, Tree.words_mk, Tree.kids_mk])
  have p69 : pre69 (ws, ws', ()) := by simp only [pre69]; omega
  refine ⟨id, id, id, id, fun _ => p69, id, id, id, id, id, id, id, id, by simp, fun hc => ?_, fun hc => ?_⟩
  · have e : sameT (.mk k ws ks) (.mk k' ws' ks') = false := by
      rw [sameT_false]
      intro h
      cases h
      simp at hc
    simp only [res33, e]
    exact ⟨⟨rfl, ⟨rfl, trivial⟩, trivial⟩, trivial⟩
  · have hc' : (k = k' ∧ ws = ws') ∧ ks.length = ks'.length := ⟨hc.1, by have := hc.2; omega⟩
    obtain ⟨⟨rfl, rfl⟩, hl⟩ := hc'
    refine loop_rule (ι := Int) (fun p => head33_0 (.mk k ws ks) (.mk k ws ks') p) (fun p => 0 ≤ p ∧ p ≤ ks.length ∧ (Tree.mk k ws ks = .mk k ws ks' ↔ ks.drop p.toNat = ks'.drop p.toNat)) (fun p => ((ks.length : Int) - p).toNat) 0 rfl ⟨by omega, by omega, by simp⟩ ?_
    rintro i ⟨h1, h2, h3⟩
    refine vc33_l0 N _ _ _ _ _ ?_
    (simp only [vcS])
    (simp only [Tree.eta, Edit.eta, Tree.kind_mk, Tree.words_mk, Tree.kids_mk])
    refine ⟨fun hc => ⟨by omega, by omega, ?_, ?_, fun hn => ?_, fun he => ⟨by unfold InR; omega, i + 1, rfl, ⟨by omega, by omega, ?_⟩, by omega⟩⟩, fun hc => ?_⟩
    · have := massK_get (ks := ks) (i := i.toNat) (by omega)
      simp only [pre33]
      omega
    · have := massK_get (ks := ks) (i := i.toNat) (by omega)
      simp only [mu33]
      omega
    · have e : sameT (.mk k ws ks) (.mk k ws ks') = false := by
        rw [sameT_false, h3, dropT_eq h1 hc (by omega)]
        rw [sameT_false] at hn
        exact fun h => hn h.1
      simp only [res33, e]
      exact ⟨⟨rfl, ⟨rfl, trivial⟩, trivial⟩, trivial⟩
    · rw [h3, dropT_eq h1 hc (by omega)]
      exact ⟨fun h => h.2, fun h => ⟨sameT_true.1 he, h⟩⟩
    · have e : sameT (.mk k ws ks) (.mk k ws ks') = true := by
        rw [sameT_true, h3]
        rw [List.drop_eq_nil_of_le (by omega), List.drop_eq_nil_of_le (by omega)]
      simp only [res33, e]
      exact ⟨⟨rfl, ⟨rfl, trivial⟩, trivial⟩, trivial⟩
theorem trim_zero : ∀ (l : List Int), trim (l ++ [0]) = trim l
  | [] => rfl
  | x :: r => by
    show (match trim (r ++ [0]) with | [] => if x = 0 then [] else [x] | y :: s => x :: y :: s) = _
    rw [trim_zero r]
    rfl
theorem trim_ne {x : Int} (hx : x ≠ 0) : ∀ (l : List Int), trim (l ++ [x]) = l ++ [x]
  | [] => by simp [trim, hx]
  | y :: r => by
    show (match trim (r ++ [x]) with | [] => if y = 0 then [] else [y] | z :: s => y :: z :: s) = _
    rw [trim_ne hx r]
    cases r <;> rfl
theorem take_last {l : List Int} {i : Int} (h0 : 0 < i) (hi : i ≤ l.length) : l.take i.toNat = l.take (i - 1).toNat ++ [l.getD (i - 1).toNat 0] := by
  have e : i.toNat = (i - 1).toNat + 1 := by omega
  rw [e, List.take_add_one]
  simp only [List.getD, List.getElem?_eq_getElem (show (i - 1).toNat < l.length by omega), Option.toList, Option.getD_some]
theorem c70 : Contract Try.prog cfg 70 spec70 := by
  refine make70 ?_
  intro l _ hp
  simp only [pre70] at hp
  refine vc70 _ _ ?_
  refine loop_rule (ι := Int) (fun p => head70_0 l p) (fun p => 0 ≤ p ∧ p ≤ l.length ∧ trim (l.take p.toNat) = trim l) (fun p => p.toNat) (l.length : Int) rfl ⟨by omega, by omega, by simp⟩ ?_
  rintro i ⟨h1, h2, h3⟩
  refine vc70_l0 _ _ _ _ ?_
  (simp only [vcS])
  refine ⟨id, fun h => by unfold InR; omega, id, id, fun h => by omega, id, id, id, fun hc => ⟨by unfold InR; omega, i - 1, rfl, ⟨by omega, by omega, ?_⟩, by omega⟩, fun hc => ⟨by omega, ?_, ?_⟩⟩
  · rw [take_last hc.1 h2, hc.2, trim_zero] at h3
    exact h3
  · simp only [List.length_nil, List.length_take]
    omega
  · have e : trim l = [] ++ l.take i.toNat := by
      rw [← h3]
      by_cases h0 : 0 < i
      · rw [take_last h0 h2, trim_ne (by rcases hc with h | h; exact absurd h0 h; exact h)]
        rfl
      · have : i.toNat = 0 := by omega
        rw [this]
        rfl
    simp only [res70, e]
    exact ⟨⟨rfl, ⟨⟨rfl, trivial⟩, trivial⟩, trivial⟩, trivial⟩
theorem trim_len : ∀ (l : List Int), (trim l).length ≤ l.length
  | [] => by simp [trim]
  | x :: r => by
    have := trim_len r
    simp only [trim]
    split
    · split <;> simp
    · rename_i h
      rw [h] at this
      simp at *
      omega
theorem trimK_mass : ∀ (l : List Tree), massK (trimK l) ≤ massK l
  | [] => by simp [trimK]
  | x :: r => by
    have := trimK_mass r
    simp only [trimK]
    split
    · split
      · simp [massK]
      · simp [massK]
    · rename_i h
      rw [h] at this
      simp only [massK] at *
      omega
mutual
theorem normT_mass : ∀ (t : Tree), mass (normT t) ≤ mass t
  | .mk k w ks => by
    have h1 := normK_mass ks
    have h2 := trim_len w
    have h3 := trimK_mass (normK ks)
    simp only [normT]
    split
    · simp only [Tree.nil, mass, massK, List.length_nil]; omega
    · split
      · simp only [mass]; omega
      · simp only [mass]; omega
theorem normK_mass : ∀ (ks : List Tree), massK (normK ks) ≤ massK ks
  | [] => by simp [normK]
  | t :: r => by
    have h1 := normT_mass t
    have h2 := normK_mass r
    simp only [normK, massK]
    omega
end
theorem normK_app : ∀ (l : List Tree) (x : Tree), normK (l ++ [x]) = normK l ++ [normT x]
  | [], x => rfl
  | y :: r, x => by simp only [List.cons_append, normK, normK_app r x]
theorem normK_len : ∀ (l : List Tree), (normK l).length = l.length
  | [] => rfl
  | y :: r => by simp only [normK, List.length_cons, normK_len r]
theorem trimK_zero {x : Tree} (hx : x.kind = 0) : ∀ (l : List Tree), trimK (l ++ [x]) = trimK l
  | [] => by simp [trimK, hx]
  | y :: r => by
    show (match trimK (r ++ [x]) with | [] => if y.kind = 0 then [] else [y] | z :: s => y :: z :: s) = _
    rw [trimK_zero hx r]
    rfl
theorem trimK_ne {x : Tree} (hx : x.kind ≠ 0) : ∀ (l : List Tree), trimK (l ++ [x]) = l ++ [x]
  | [] => by simp [trimK, hx]
  | y :: r => by
    show (match trimK (r ++ [x]) with | [] => if y.kind = 0 then [] else [y] | z :: s => y :: z :: s) = _
    rw [trimK_ne hx r]
    cases r <;> rfl
theorem takeT_next {l : List Tree} {i : Int} (h0 : 0 ≤ i) (hi : i < l.length) : l.take (i + 1).toNat = l.take i.toNat ++ [l.getD i.toNat Tree.nil] := by
  have e : (i + 1).toNat = i.toNat + 1 := by omega
  rw [e, List.take_add_one]
  simp only [List.getD, List.getElem?_eq_getElem (show i.toNat < l.length by omega), Option.toList, Option.getD_some]
theorem c31 : Contract Try.prog cfg 31 spec31 := by
  refine make31 c70 ?_
  rintro N ⟨k, ws, ks⟩ _ hp hN
  have hlen := massK_len ks
  simp only [pre31, mu31, mass] at hp hN
  refine vc31 N _ _ ?_
  (simp only [vcS])
  (simp only [Tree.eta, Edit.eta, Tree.kind_mk, Tree.words_mk, Tree.kids_mk])
  refine ⟨fun hc => ?_, fun hc0 => ?_⟩
  · have e : normT (.mk k ws ks) = Tree.nil := by simp [normT, hc]
    simp only [res31, e]
    exact ⟨⟨rfl, ⟨⟨rfl, rfl⟩, ⟨rfl, ⟨rfl, trivial⟩⟩⟩, trivial⟩, trivial⟩
  · refine loop_rule (ι := Int × Int × List Tree) (fun p => head31_0 (.mk k ws ks) p.1 p.2.1 p.2.2) (fun p => 0 ≤ p.2.1 ∧ p.2.1 ≤ ks.length ∧ 0 ≤ p.1 ∧ p.1 ≤ p.2.1 ∧ p.2.2 = normK (ks.take p.2.1.toNat) ∧ trimK (normK (ks.take p.2.1.toNat)) = p.2.2.take p.1.toNat) (fun p => ((ks.length : Int) - p.2.1).toNat) (0, 0, []) rfl ⟨by dsimp only; omega, by dsimp only; omega, by dsimp only; omega, by dsimp only; omega, rfl, rfl⟩ ?_
    rintro ⟨last, i, l⟩ ⟨h1, h2, h3, h4, h5, h6⟩
    dsimp only at *
    have hl : l.length = i.toNat := by rw [h5, normK_len, List.length_take]; omega
    refine vc31_l0 N _ _ _ _ _ _ ?_
    (simp only [vcS])
    (simp only [Tree.eta, Edit.eta, Tree.kind_mk, Tree.words_mk, Tree.kids_mk])
    refine ⟨fun hc => ?_, fun hc => ⟨fun h1 => ⟨?_, by omega, ?_⟩, fun hk => ⟨?_, ?_⟩⟩⟩
    · have hm := massK_get (ks := ks) (i := i.toNat) (by omega)
      have hnx : normK (ks.take (i + 1).toNat) = l ++ [normT (ks.getD i.toNat Tree.nil)] := by rw [takeT_next h1 hc, normK_app, h5]
      refine ⟨by omega, by simp only [pre31]; omega, by simp only [mu31]; omega, by simp only [List.length_cons, List.length_nil]; omega, fun hk => ⟨by unfold InR; omega, by unfold InR; omega, (i + 1, i + 1, _), rfl, ⟨by dsimp only; omega, by dsimp only; omega, by dsimp only; omega, by dsimp only; omega, hnx.symm, ?_⟩, by dsimp only; omega⟩, fun hk => ⟨by unfold InR; omega, (last, i + 1, _), rfl, ⟨by dsimp only; omega, by dsimp only; omega, by dsimp only; omega, by dsimp only; omega, hnx.symm, ?_⟩, by dsimp only; omega⟩⟩
      · dsimp only
        rw [hnx, trimK_ne hk, List.take_of_length_le (by simp; omega)]
      · dsimp only
        rw [hnx, trimK_zero hk, List.take_append_of_le_length (by omega), ← h6, h5]
    · simp only [pre70]; omega
    · have hi : ks.take i.toNat = ks := List.take_of_length_le (by omega)
      rw [hi] at h5 h6
      have e : normT (.mk k ws ks) = .mk 1 (trim ws) (l.take last.toNat) := by
        subst h1
        simp only [normT, ← h6]
        rfl
      simp only [res31, e]
      exact ⟨⟨rfl, ⟨⟨rfl, rfl⟩, ⟨rfl, trivial⟩, ⟨rfl, trivial⟩, trivial⟩, trivial⟩, trivial⟩
    · simp only [List.length_nil]; omega
    · have hi : ks.take i.toNat = ks := List.take_of_length_le (by omega)
      rw [hi] at h5
      have e : normT (.mk k ws ks) = .mk k ([] ++ ws) l := by
        simp only [normT, if_neg hc0, if_neg hk, h5]
        rfl
      simp only [res31, e]
      exact ⟨⟨rfl, ⟨⟨rfl, rfl⟩, ⟨rfl, trivial⟩, ⟨rfl, trivial⟩, trivial⟩, trivial⟩, trivial⟩
theorem last_eq {l : List Int} (h0 : 0 < (l.length : Int)) : l = l.take ((l.length : Int) - 1).toNat ++ [l.getD ((l.length : Int) - 1).toNat 0] := by
  have := take_last h0 (Int.le_refl _)
  rw [List.take_of_length_le (by omega)] at this
  exact this
theorem lastT_eq {l : List Tree} (h0 : 0 < (l.length : Int)) : l = l.take ((l.length : Int) - 1).toNat ++ [l.getD ((l.length : Int) - 1).toNat Tree.nil] := by
  have := takeT_next (l := l) (i := (l.length : Int) - 1) (by omega) (by omega)
  rw [List.take_of_length_le (by omega)] at this
  exact this
theorem trim_step {l : List Int} (h0 : 0 < (l.length : Int)) (hz : l.getD ((l.length : Int) - 1).toNat 0 = 0) : trim (l.take ((l.length : Int) - 1).toNat) = trim l := by
  have e := trim_zero (l.take ((l.length : Int) - 1).toNat)
  have h := last_eq h0
  rw [hz] at h
  rw [← h] at e
  exact e.symm
theorem trim_done {l : List Int} (h : ¬ 0 < (l.length : Int) ∨ ¬ l.getD ((l.length : Int) - 1).toNat 0 = 0) : trim l = l := by
  by_cases h0 : 0 < (l.length : Int)
  · have e := trim_ne (x := l.getD ((l.length : Int) - 1).toNat 0) (by rcases h with h | h; exact absurd h0 h; exact h) (l.take ((l.length : Int) - 1).toNat)
    rw [← last_eq h0] at e
    exact e
  · have : l = [] := List.eq_nil_of_length_eq_zero (by omega)
    subst this
    rfl
theorem trimK_step {l : List Tree} (h0 : 0 < (l.length : Int)) (hz : (l.getD ((l.length : Int) - 1).toNat Tree.nil).kind = 0) : trimK (l.take ((l.length : Int) - 1).toNat) = trimK l := by
  have e := trimK_zero hz (l.take ((l.length : Int) - 1).toNat)
  rw [← lastT_eq h0] at e
  exact e.symm
theorem trimK_done {l : List Tree} (h : ¬ 0 < (l.length : Int) ∨ ¬ (l.getD ((l.length : Int) - 1).toNat Tree.nil).kind = 0) : trimK l = l := by
  by_cases h0 : 0 < (l.length : Int)
  · have e := trimK_ne (x := l.getD ((l.length : Int) - 1).toNat Tree.nil) (by rcases h with h | h; exact absurd h0 h; exact h) (l.take ((l.length : Int) - 1).toNat)
    rw [← lastT_eq h0] at e
    exact e
  · have : l = [] := List.eq_nil_of_length_eq_zero (by omega)
    subst this
    rfl
theorem c32 : Contract Try.prog cfg 32 spec32 := by
  refine make32 c71 ?_
  rintro N ⟨k, ws, ks⟩ _ hp hN
  have hlen := massK_len ks
  simp only [pre32, mu32, mass] at hp hN
  refine vc32 N _ _ ?_
  (simp only [vcS])
  (simp only [Tree.eta, Edit.eta, Tree.kind_mk, Tree.words_mk, Tree.kids_mk])
  refine ⟨fun hc => ?_, fun hc0 => ⟨by simp only [pre71]; omega, ?_⟩⟩
  · have e : normT (.mk k ws ks) = Tree.nil := by simp [normT, hc]
    simp only [res32, e]
    exact ⟨⟨rfl, ⟨⟨rfl, rfl⟩, ⟨rfl, ⟨rfl, trivial⟩⟩⟩, trivial⟩, trivial⟩
  · refine loop_rule (ι := Int × List Tree) (fun p => head32_0 (.mk k ws ks) p.1 p.2) (fun p => 0 ≤ p.1 ∧ p.1 ≤ ks.length ∧ p.2 = normK (ks.take p.1.toNat)) (fun p => ((ks.length : Int) - p.1).toNat) (0, []) rfl ⟨by dsimp only; omega, by dsimp only; omega, rfl⟩ ?_
    rintro ⟨i, l⟩ ⟨h1, h2, h5⟩
    dsimp only at *
    have hl : l.length = i.toNat := by rw [h5, normK_len, List.length_take]; omega
    refine vc32_l0 N _ _ _ _ _ ?_
    (simp only [vcS])
    (simp only [Tree.eta, Edit.eta, Tree.kind_mk, Tree.words_mk, Tree.kids_mk])
    refine ⟨fun hc => ?_, fun hc => ⟨fun hk => ?_, fun hk => ?_⟩⟩
    · have hm := massK_get (ks := ks) (i := i.toNat) (by omega)
      have hnx : normK (ks.take (i + 1).toNat) = l ++ [normT (ks.getD i.toNat Tree.nil)] := by rw [takeT_next h1 hc, normK_app, h5]
      exact ⟨by omega, by simp only [pre32]; omega, by simp only [mu32]; omega, by simp only [List.length_cons, List.length_nil]; omega, by unfold InR; omega, (i + 1, _), rfl, ⟨by dsimp only; omega, by dsimp only; omega, hnx.symm⟩, by dsimp only; omega⟩
    · have hi : ks.take i.toNat = ks := List.take_of_length_le (by omega)
      rw [hi] at h5
      refine loop_rule (ι := List Int) (fun p => head32_1 (.mk k ws ks) l p) (fun p => p.length ≤ ws.length ∧ trim p = trim ws) (fun p => p.length) ws rfl ⟨by omega, rfl⟩ ?_
      rintro w ⟨h6, h7⟩
      refine vc32_l1 N _ _ _ _ _ ?_
      (simp only [vcS])
      refine ⟨id, id, id, id, fun h => by unfold InR; omega, id, id, fun h => by omega, id, id, id, fun hc => ⟨by unfold InR; omega, by omega, _, rfl, ⟨by rw [List.length_take]; omega, ?_⟩, by rw [List.length_take]; omega⟩, fun hc => ?_⟩
      · rw [trim_step hc.1 hc.2, h7]
      · have hw : w = trim ws := by rw [← h7, trim_done hc]
        refine loop_rule (ι := List Tree) (fun p => head32_2 (.mk k ws ks) w p) (fun p => p.length ≤ l.length ∧ trimK p = trimK l) (fun p => p.length) l rfl ⟨by omega, rfl⟩ ?_
        rintro q ⟨h8, h9⟩
        refine vc32_l2 N _ _ _ _ _ ?_
        (simp only [vcS])
        refine ⟨id, id, id, id, fun h => by unfold InR; omega, id, id, fun h => by omega, id, id, id, id, fun hc => ⟨by unfold InR; omega, by omega, _, rfl, ⟨by rw [List.length_take]; omega, ?_⟩, by rw [List.length_take]; omega⟩, fun hc => ?_⟩
        · rw [trimK_step hc.1 hc.2, h9]
        · have hq : q = trimK (normK ks) := by rw [← h5, ← h9, trimK_done hc]
          have e : normT (.mk k ws ks) = .mk k w q := by
            subst hk
            simp only [normT, hw, hq]
            rfl
          simp only [res32, e]
          exact ⟨⟨rfl, ⟨⟨rfl, rfl⟩, ⟨rfl, trivial⟩, ⟨rfl, trivial⟩, trivial⟩, trivial⟩, trivial⟩
    · have hi : ks.take i.toNat = ks := List.take_of_length_le (by omega)
      rw [hi] at h5
      have e : normT (.mk k ws ks) = .mk k ws l := by simp only [normT, if_neg hc0, if_neg hk, h5]
      simp only [res32, e]
      exact ⟨⟨rfl, ⟨⟨rfl, rfl⟩, ⟨rfl, trivial⟩, ⟨rfl, trivial⟩, trivial⟩, trivial⟩, trivial⟩
end Go.AM.Ytlahjnelghpmeaa
