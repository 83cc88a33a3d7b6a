import Derived.Test.YthokdjgpdonhgaaBD07
import Derived.Test.YthokdjgpdonhgaaQBb
import Derived.Test.YthokdjgpdonhgaaQD4
set_option linter.unusedSimpArgs false
set_option linter.unusedVariables false
namespace Go.AM.Ythokdjgpdonhgaa
open Go.AM Go.Proofs

def args72 : ArgL (Tree × Unit) := (.cons (aEl .tree) .nil)
def pre72 (a : Tree × Unit) : Prop := mass a.1 ≤ 1000000000000
def mu72 (a : Tree × Unit) : Nat := mass a.1
noncomputable def res72 (a : Tree × Unit) : V U := .agg [.int .i64 (Tree.kind (normT a.1)), .slice (U := U) .u64 (Tree.words (normT a.1)) .unk, .slice (U := U) .tree (Tree.kids (normT a.1)) .unk]
noncomputable def spec72 : Fs U := fs args72 (fun a => [pre72 a]) res72

def args49 : ArgL (Tree × Tree × Unit) := (.cons (aEl .tree) (.cons (aEl .tree) .nil))
def pre49 (a : Tree × Tree × Unit) : Prop := mass a.1 ≤ 1000000000000
def mu49 (a : Tree × Tree × Unit) : Nat := mass a.1
noncomputable def res49 (a : Tree × Tree × Unit) : V U := .c (.bool (sameT a.1 a.2.1))
noncomputable def spec49 : Fs U := fs args49 (fun a => [pre49 a]) res49

noncomputable def know72 (N : Nat) : List (FuncId × Fs U) := (72, fs args72 (fun a => [pre72 a, mu72 a < N]) res72) :: [(60, spec60)]
def lv72 : Lives U := fun i => match i with
  | 0 => ([(1, []), (2, [])], [((.loc 1), []), ((.loc 2), [])])
  | 1 => ([(1, []), (2, []), (8, [])], [((.loc 1), []), ((.loc 2), [])])
  | 2 => ([(2, [])], [((.loc 2), [])])
  | 3 => ([(1, []), (2, []), (3, [])], [((.loc 1), []), ((.loc 2), []), ((.loc 3), [])])
  | 4 => ([(1, []), (2, []), (3, []), (17, []), (18, []), (19, [])], [((.loc 1), []), ((.loc 2), []), ((.loc 3), [.any, .any, .own .tree])])
  | 5 => ([(1, []), (2, []), (3, []), (17, []), (18, []), (19, []), (20, [])], [((.loc 1), []), ((.loc 2), []), ((.loc 3), [])])
  | 6 => ([(1, []), (2, []), (3, []), (5, []), (17, []), (18, []), (19, [])], [((.loc 1), []), ((.loc 2), []), ((.loc 3), []), ((.loc 5), [])])
  | 7 => ([(1, []), (2, []), (3, []), (17, []), (18, []), (19, [])], [((.loc 1), []), ((.loc 2), []), ((.loc 3), [])])
  | 8 => ([(1, []), (2, []), (3, []), (17, []), (18, []), (19, [])], [((.loc 1), []), ((.loc 2), []), ((.loc 3), [.any, .any, .own .tree])])
  | 9 => ([(2, []), (3, []), (33, [])], [((.loc 2), []), ((.loc 3), [.any, .any, .unk .tree])])
  | 10 => ([(2, []), (3, []), (33, []), (48, [])], [((.loc 2), []), ((.loc 3), [.any, .any, .unk .tree])])
  | 11 => ([(2, []), (3, []), (33, [])], [((.loc 2), []), ((.loc 3), [.any, .any, .unk .tree])])
  | 12 => ([(2, []), (3, []), (33, []), (48, []), (72, [])], [((.loc 2), []), ((.loc 3), [])])
  | 13 => ([(2, []), (3, []), (33, []), (48, [])], [((.loc 2), []), ((.loc 3), [.any, .any, .unk .tree])])
  | 14 => ([(2, [])], [((.loc 2), [])])
  | _ => ([], [])
def head72_0 (t : Tree) (x19 : Int) (ml3_2 : List Tree) : LSt U := (⟨[(1, .ptr (.loc 1) 0), (2, .ptr (.loc 2) 0), (3, .ptr (.loc 3) 0), (17, .c (.slice (U := U) .tree (Tree.kids t) .unk)), (18, .c (.int .i64 ((Tree.kids t).length : Int))), (19, .c (.int .i64 x19))], [((.loc 1), [.int .i64 (Tree.kind t), .slice (U := U) .u64 (Tree.words t) .unk, .slice (U := U) .tree (Tree.kids t) .unk]), ((.loc 2), [.int .i64 0, .nils, .nils]), ((.loc 3), [.int .i64 (Tree.kind t), .slice (U := U) .u64 (Tree.words t) .unk, .slice (U := U) .tree ml3_2 (.own (.l 3 2))])], []⟩ : LSt U)
def head72_1 (t : Tree) (ml3_2 : List Tree) (ml3_1_a : List Int) : LSt U := (⟨[(2, .ptr (.loc 2) 0), (3, .ptr (.loc 3) 0), (33, .c (.bool (((Tree.kind t) : Int) == 1)))], [((.loc 2), [.int .i64 0, .nils, .nils]), ((.loc 3), [.int .i64 (Tree.kind t), .slice (U := U) .u64 ml3_1_a .unk, .slice (U := U) .tree ml3_2 .unk])], []⟩ : LSt U)
def head72_2 (t : Tree) (ml3_1_a : List Int) (ml3_2_b : List Tree) : LSt U := (⟨[(2, .ptr (.loc 2) 0), (3, .ptr (.loc 3) 0), (33, .c (.bool (((Tree.kind t) : Int) == 1))), (48, .c (.bool (bif (decide ((0 : Int) < (ml3_1_a.length : Int))) then (((List.getD ml3_1_a (Int.toNat (((ml3_1_a.length : Int) : Int) - 1)) (0 : Int)) : Int) == 0) else false)))], [((.loc 2), [.int .i64 0, .nils, .nils]), ((.loc 3), [.int .i64 (Tree.kind t), .slice (U := U) .u64 ml3_1_a .unk, .slice (U := U) .tree ml3_2_b .unk])], []⟩ : LSt U)
theorem vc72 (N : Nat) (t : Tree) (Q : AExit → LSt U → Prop) (h : ((((((Tree.kind t) : Int) == 0) = true → (Q .ret (⟨[(2, .ptr (.loc 2) 0)], [((.loc 2), [.int .i64 0, .nils, .nils])], []⟩ : LSt U))) ∧ ((((Tree.kind t) : Int) == 0) = false → (pre60 ((Tree.words t), ())) ∧ ((LoopWp (awp cfg (know (know72 N)) (drawOk cfg (know (know72 N))) Try.f72.ntmps lv72 (cd Try.f72 [1, 1, 1, 0, 1, 0, 0])) (head72_0 t 0 ([])) (AExit.inBlock 0 (seqK cfg (know (know72 N)) (drawOk cfg (know (know72 N))) Try.f72.ntmps lv72 (cd Try.f72 [1, 1, 1, 1]) Q)))))))) :
    awp cfg (know (know72 N)) (drawOk cfg (know (know72 N))) Try.f72.ntmps lv72 (cd Try.f72 []) (⟨[(0, .agg [.int .i64 (Tree.kind t), .slice (U := U) .u64 (Tree.words t) .unk, .slice (U := U) .tree (Tree.kids t) .unk])], [], []⟩ : LSt U) Q := by
  have e : (awp cfg (know (know72 N)) (drawOk cfg (know (know72 N))) Try.f72.ntmps lv72 (cd Try.f72 []) (⟨[(0, .agg [.int .i64 (Tree.kind t), .slice (U := U) .u64 (Tree.words t) .unk, .slice (U := U) .tree (Tree.kids t) .unk])], [], []⟩ : LSt U) Q) = (((((((Tree.kind t) : Int) == 0) = true → (Q .ret (⟨[(2, .ptr (.loc 2) 0)], [((.loc 2), [.int .i64 0, .nils, .nils])], []⟩ : LSt U))) ∧ ((((Tree.kind t) : Int) == 0) = false → (pre60 ((Tree.words t), ())) ∧ ((LoopWp (awp cfg (know (know72 N)) (drawOk cfg (know (know72 N))) Try.f72.ntmps lv72 (cd Try.f72 [1, 1, 1, 0, 1, 0, 0])) (head72_0 t 0 ([])) (AExit.inBlock 0 (seqK cfg (know (know72 N)) (drawOk cfg (know (know72 N))) Try.f72.ntmps lv72 (cd Try.f72 [1, 1, 1, 1]) Q)))))))) := by kernel_rfl
  exact e.mpr h
theorem vc72_l0 (N : Nat) (t : Tree) (x19 : Int) (ml3_2 : List Tree) (N0 : LSt U → Prop) (Q : AExit → LSt U → Prop) (h : (((decide ((x19 : Int) < ((Tree.kids t).length : Int))) = true → (0 ≤ x19 ∧ x19 < ((Tree.kids t).length : Int)) ∧ ((pre72 ((Tree.mk (Tree.kind (List.getD (Tree.kids t) (Int.toNat x19) Tree.nil)) (Tree.words (List.getD (Tree.kids t) (Int.toNat x19) Tree.nil)) (Tree.kids (List.getD (Tree.kids t) (Int.toNat x19) Tree.nil))), ())) ∧ (mu72 ((Tree.mk (Tree.kind (List.getD (Tree.kids t) (Int.toNat x19) Tree.nil)) (Tree.words (List.getD (Tree.kids t) (Int.toNat x19) Tree.nil)) (Tree.kids (List.getD (Tree.kids t) (Int.toNat x19) Tree.nil))), ()) < N) ∧ ((ml3_2.length + ([(Tree.mk (Tree.kind (normT (Tree.mk (Tree.kind (List.getD (Tree.kids t) (Int.toNat x19) Tree.nil)) (Tree.words (List.getD (Tree.kids t) (Int.toNat x19) Tree.nil)) (Tree.kids (List.getD (Tree.kids t) (Int.toNat x19) Tree.nil))))) (Tree.words (normT (Tree.mk (Tree.kind (List.getD (Tree.kids t) (Int.toNat x19) Tree.nil)) (Tree.words (List.getD (Tree.kids t) (Int.toNat x19) Tree.nil)) (Tree.kids (List.getD (Tree.kids t) (Int.toNat x19) Tree.nil))))) (Tree.kids (normT (Tree.mk (Tree.kind (List.getD (Tree.kids t) (Int.toNat x19) Tree.nil)) (Tree.words (List.getD (Tree.kids t) (Int.toNat x19) Tree.nil)) (Tree.kids (List.getD (Tree.kids t) (Int.toNat x19) Tree.nil))))))]).length) * 56 ≤ 140737488355328) ∧ ((InR ((x19 : Int) + 1)) ∧ (N0 (head72_0 t ((x19 : Int) + 1) (ml3_2 ++ ([(Tree.mk (Tree.kind (normT (Tree.mk (Tree.kind (List.getD (Tree.kids t) (Int.toNat x19) Tree.nil)) (Tree.words (List.getD (Tree.kids t) (Int.toNat x19) Tree.nil)) (Tree.kids (List.getD (Tree.kids t) (Int.toNat x19) Tree.nil))))) (Tree.words (normT (Tree.mk (Tree.kind (List.getD (Tree.kids t) (Int.toNat x19) Tree.nil)) (Tree.words (List.getD (Tree.kids t) (Int.toNat x19) Tree.nil)) (Tree.kids (List.getD (Tree.kids t) (Int.toNat x19) Tree.nil))))) (Tree.kids (normT (Tree.mk (Tree.kind (List.getD (Tree.kids t) (Int.toNat x19) Tree.nil)) (Tree.words (List.getD (Tree.kids t) (Int.toNat x19) Tree.nil)) (Tree.kids (List.getD (Tree.kids t) (Int.toNat x19) Tree.nil))))))]))))))) ∧ ((decide ((x19 : Int) < ((Tree.kids t).length : Int))) = false → (((((Tree.kind t) : Int) == 1) = true → LoopWp (awp cfg (know (know72 N)) (drawOk cfg (know (know72 N))) Try.f72.ntmps lv72 (cd Try.f72 [1, 1, 1, 1, 0, 1, 0, 0, 0, 0])) (head72_1 t ml3_2 (Tree.words t)) (AExit.inBlock 2 (seqK cfg (know (know72 N)) (drawOk cfg (know (know72 N))) Try.f72.ntmps lv72 (cd Try.f72 [1, 1, 1, 1, 0, 1, 0, 1]) (seqK cfg (know (know72 N)) (drawOk cfg (know (know72 N))) Try.f72.ntmps lv72 (cd Try.f72 [1, 1, 1, 1, 1]) Q)))) ∧ ((((Tree.kind t) : Int) == 1) = false → (Q .ret (⟨[(2, .ptr (.loc 2) 0)], [((.loc 2), [.int .i64 (Tree.kind t), .slice (U := U) .u64 (Tree.words t) .unk, .slice (U := U) .tree ml3_2 .unk])], []⟩ : LSt U))))))) :
    awp cfg (know (know72 N)) (drawOk cfg (know (know72 N))) Try.f72.ntmps lv72 (cd Try.f72 [1, 1, 1, 0, 1, 0, 0]) (head72_0 t x19 ml3_2) (AExit.then N0 (AExit.inBlock 0 (seqK cfg (know (know72 N)) (drawOk cfg (know (know72 N))) Try.f72.ntmps lv72 (cd Try.f72 [1, 1, 1, 1]) Q))) := by
  have e : (awp cfg (know (know72 N)) (drawOk cfg (know (know72 N))) Try.f72.ntmps lv72 (cd Try.f72 [1, 1, 1, 0, 1, 0, 0]) (head72_0 t x19 ml3_2) (AExit.then N0 (AExit.inBlock 0 (seqK cfg (know (know72 N)) (drawOk cfg (know (know72 N))) Try.f72.ntmps lv72 (cd Try.f72 [1, 1, 1, 1]) Q)))) = ((((decide ((x19 : Int) < ((Tree.kids t).length : Int))) = true → (0 ≤ x19 ∧ x19 < ((Tree.kids t).length : Int)) ∧ ((pre72 ((Tree.mk (Tree.kind (List.getD (Tree.kids t) (Int.toNat x19) Tree.nil)) (Tree.words (List.getD (Tree.kids t) (Int.toNat x19) Tree.nil)) (Tree.kids (List.getD (Tree.kids t) (Int.toNat x19) Tree.nil))), ())) ∧ (mu72 ((Tree.mk (Tree.kind (List.getD (Tree.kids t) (Int.toNat x19) Tree.nil)) (Tree.words (List.getD (Tree.kids t) (Int.toNat x19) Tree.nil)) (Tree.kids (List.getD (Tree.kids t) (Int.toNat x19) Tree.nil))), ()) < N) ∧ ((ml3_2.length + ([(Tree.mk (Tree.kind (normT (Tree.mk (Tree.kind (List.getD (Tree.kids t) (Int.toNat x19) Tree.nil)) (Tree.words (List.getD (Tree.kids t) (Int.toNat x19) Tree.nil)) (Tree.kids (List.getD (Tree.kids t) (Int.toNat x19) Tree.nil))))) (Tree.words (normT (Tree.mk (Tree.kind (List.getD (Tree.kids t) (Int.toNat x19) Tree.nil)) (Tree.words (List.getD (Tree.kids t) (Int.toNat x19) Tree.nil)) (Tree.kids (List.getD (Tree.kids t) (Int.toNat x19) Tree.nil))))) (Tree.kids (normT (Tree.mk (Tree.kind (List.getD (Tree.kids t) (Int.toNat x19) Tree.nil)) (Tree.words (List.getD (Tree.kids t) (Int.toNat x19) Tree.nil)) (Tree.kids (List.getD (Tree.kids t) (Int.toNat x19) Tree.nil))))))]).length) * 56 ≤ 140737488355328) ∧ ((InR ((x19 : Int) + 1)) ∧ (N0 (head72_0 t ((x19 : Int) + 1) (ml3_2 ++ ([(Tree.mk (Tree.kind (normT (Tree.mk (Tree.kind (List.getD (Tree.kids t) (Int.toNat x19) Tree.nil)) (Tree.words (List.getD (Tree.kids t) (Int.toNat x19) Tree.nil)) (Tree.kids (List.getD (Tree.kids t) (Int.toNat x19) Tree.nil))))) (Tree.words (normT (Tree.mk (Tree.kind (List.getD (Tree.kids t) (Int.toNat x19) Tree.nil)) (Tree.words (List.getD (Tree.kids t) (Int.toNat x19) Tree.nil)) (Tree.kids (List.getD (Tree.kids t) (Int.toNat x19) Tree.nil))))) (Tree.kids (normT (Tree.mk (Tree.kind (List.getD (Tree.kids t) (Int.toNat x19) Tree.nil)) (Tree.words (List.getD (Tree.kids t) (Int.toNat x19) Tree.nil)) (Tree.kids (List.getD (Tree.kids t) (Int.toNat x19) Tree.nil))))))]))))))) ∧ ((decide ((x19 : Int) < ((Tree.kids t).length : Int))) = false → (((((Tree.kind t) : Int) == 1) = true → LoopWp (awp cfg (know (know72 N)) (drawOk cfg (know (know72 N))) Try.f72.ntmps lv72 (cd Try.f72 [1, 1, 1, 1, 0, 1, 0, 0, 0, 0])) (head72_1 t ml3_2 (Tree.words t)) (AExit.inBlock 2 (seqK cfg (know (know72 N)) (drawOk cfg (know (know72 N))) Try.f72.ntmps lv72 (cd Try.f72 [1, 1, 1, 1, 0, 1, 0, 1]) (seqK cfg (know (know72 N)) (drawOk cfg (know (know72 N))) Try.f72.ntmps lv72 (cd Try.f72 [1, 1, 1, 1, 1]) Q)))) ∧ ((((Tree.kind t) : Int) == 1) = false → (Q .ret (⟨[(2, .ptr (.loc 2) 0)], [((.loc 2), [.int .i64 (Tree.kind t), .slice (U := U) .u64 (Tree.words t) .unk, .slice (U := U) .tree ml3_2 .unk])], []⟩ : LSt U))))))) := by kernel_rfl
  exact e.mpr h
theorem vc72_l1 (N : Nat) (t : Tree) (ml3_2 : List Tree) (ml3_1_a : List Int) (N1 : LSt U → Prop) (Q : AExit → LSt U → Prop) (h : ((decide ((0 : Int) < (ml3_1_a.length : Int))) = true → (decide ((0 : Int) < (ml3_1_a.length : Int))) = true) ∧ ((decide ((0 : Int) < (ml3_1_a.length : Int))) = true → (decide ((0 : Int) < (ml3_1_a.length : Int))) = true) ∧ ((decide ((0 : Int) < (ml3_1_a.length : Int))) = true → (decide ((0 : Int) < (ml3_1_a.length : Int))) = true) ∧ ((decide ((0 : Int) < (ml3_1_a.length : Int))) = true → (decide ((0 : Int) < (ml3_1_a.length : Int))) = true) ∧ ((decide ((0 : Int) < (ml3_1_a.length : Int))) = true → InR (((ml3_1_a.length : Int) : Int) - 1)) ∧ ((decide ((0 : Int) < (ml3_1_a.length : Int))) = true → (decide ((0 : Int) < (ml3_1_a.length : Int))) = true) ∧ ((decide ((0 : Int) < (ml3_1_a.length : Int))) = true → (decide ((0 : Int) < (ml3_1_a.length : Int))) = true) ∧ ((decide ((0 : Int) < (ml3_1_a.length : Int))) = true → 0 ≤ (((ml3_1_a.length : Int) : Int) - 1) ∧ (((ml3_1_a.length : Int) : Int) - 1) < (ml3_1_a.length : Int)) ∧ ((decide ((0 : Int) < (ml3_1_a.length : Int))) = true → (decide ((0 : Int) < (ml3_1_a.length : Int))) = true) ∧ ((decide ((0 : Int) < (ml3_1_a.length : Int))) = true → (decide ((0 : Int) < (ml3_1_a.length : Int))) = true) ∧ (((decide ((0 : Int) < (ml3_1_a.length : Int))) = true → (decide ((0 : Int) < (ml3_1_a.length : Int))) = true)) ∧ (((bif (decide ((0 : Int) < (ml3_1_a.length : Int))) then (((List.getD ml3_1_a (Int.toNat (((ml3_1_a.length : Int) : Int) - 1)) (0 : Int)) : Int) == 0) else false) = true → (InR (((ml3_1_a.length : Int) : Int) - 1)) ∧ (0 ≤ (((ml3_1_a.length : Int) : Int) - 1) ∧ (((ml3_1_a.length : Int) : Int) - 1) ≤ (ml3_1_a.length : Int)) ∧ (N1 (head72_1 t ml3_2 (List.take (Int.toNat (((ml3_1_a.length : Int) : Int) - 1)) ml3_1_a)))) ∧ ((bif (decide ((0 : Int) < (ml3_1_a.length : Int))) then (((List.getD ml3_1_a (Int.toNat (((ml3_1_a.length : Int) : Int) - 1)) (0 : Int)) : Int) == 0) else false) = false → LoopWp (awp cfg (know (know72 N)) (drawOk cfg (know (know72 N))) Try.f72.ntmps lv72 (cd Try.f72 [1, 1, 1, 1, 0, 1, 0, 1, 0, 0])) (head72_2 t ml3_1_a ml3_2) (AExit.inBlock 4 (seqK cfg (know (know72 N)) (drawOk cfg (know (know72 N))) Try.f72.ntmps lv72 (cd Try.f72 [1, 1, 1, 1, 1]) Q))))) :
    awp cfg (know (know72 N)) (drawOk cfg (know (know72 N))) Try.f72.ntmps lv72 (cd Try.f72 [1, 1, 1, 1, 0, 1, 0, 0, 0, 0]) (head72_1 t ml3_2 ml3_1_a) (AExit.then N1 (AExit.inBlock 2 (seqK cfg (know (know72 N)) (drawOk cfg (know (know72 N))) Try.f72.ntmps lv72 (cd Try.f72 [1, 1, 1, 1, 0, 1, 0, 1]) (seqK cfg (know (know72 N)) (drawOk cfg (know (know72 N))) Try.f72.ntmps lv72 (cd Try.f72 [1, 1, 1, 1, 1]) Q)))) := by
  have e : (awp cfg (know (know72 N)) (drawOk cfg (know (know72 N))) Try.f72.ntmps lv72 (cd Try.f72 [1, 1, 1, 1, 0, 1, 0, 0, 0, 0]) (head72_1 t ml3_2 ml3_1_a) (AExit.then N1 (AExit.inBlock 2 (seqK cfg (know (know72 N)) (drawOk cfg (know (know72 N))) Try.f72.ntmps lv72 (cd Try.f72 [1, 1, 1, 1, 0, 1, 0, 1]) (seqK cfg (know (know72 N)) (drawOk cfg (know (know72 N))) Try.f72.ntmps lv72 (cd Try.f72 [1, 1, 1, 1, 1]) Q))))) = (((decide ((0 : Int) < (ml3_1_a.length : Int))) = true → (decide ((0 : Int) < (ml3_1_a.length : Int))) = true) ∧ ((decide ((0 : Int) < (ml3_1_a.length : Int))) = true → (decide ((0 : Int) < (ml3_1_a.length : Int))) = true) ∧ ((decide ((0 : Int) < (ml3_1_a.length : Int))) = true → (decide ((0 : Int) < (ml3_1_a.length : Int))) = true) ∧ ((decide ((0 : Int) < (ml3_1_a.length : Int))) = true → (decide ((0 : Int) < (ml3_1_a.length : Int))) = true) ∧ ((decide ((0 : Int) < (ml3_1_a.length : Int))) = true → InR (((ml3_1_a.length : Int) : Int) - 1)) ∧ ((decide ((0 : Int) < (ml3_1_a.length : Int))) = true → (decide ((0 : Int) < (ml3_1_a.length : Int))) = true) ∧ ((decide ((0 : Int) < (ml3_1_a.length : Int))) = true → (decide ((0 : Int) < (ml3_1_a.length : Int))) = true) ∧ ((decide ((0 : Int) < (ml3_1_a.length : Int))) = true → 0 ≤ (((ml3_1_a.length : Int) : Int) - 1) ∧ (((ml3_1_a.length : Int) : Int) - 1) < (ml3_1_a.length : Int)) ∧ ((decide ((0 : Int) < (ml3_1_a.length : Int))) = true → (decide ((0 : Int) < (ml3_1_a.length : Int))) = true) ∧ ((decide ((0 : Int) < (ml3_1_a.length : Int))) = true → (decide ((0 : Int) < (ml3_1_a.length : Int))) = true) ∧ (((decide ((0 : Int) < (ml3_1_a.length : Int))) = true → (decide ((0 : Int) < (ml3_1_a.length : Int))) = true)) ∧ (((bif (decide ((0 : Int) < (ml3_1_a.length : Int))) then (((List.getD ml3_1_a (Int.toNat (((ml3_1_a.length : Int) : Int) - 1)) (0 : Int)) : Int) == 0) else false) = true → (InR (((ml3_1_a.length : Int) : Int) - 1)) ∧ (0 ≤ (((ml3_1_a.length : Int) : Int) - 1) ∧ (((ml3_1_a.length : Int) : Int) - 1) ≤ (ml3_1_a.length : Int)) ∧ (N1 (head72_1 t ml3_2 (List.take (Int.toNat (((ml3_1_a.length : Int) : Int) - 1)) ml3_1_a)))) ∧ ((bif (decide ((0 : Int) < (ml3_1_a.length : Int))) then (((List.getD ml3_1_a (Int.toNat (((ml3_1_a.length : Int) : Int) - 1)) (0 : Int)) : Int) == 0) else false) = false → LoopWp (awp cfg (know (know72 N)) (drawOk cfg (know (know72 N))) Try.f72.ntmps lv72 (cd Try.f72 [1, 1, 1, 1, 0, 1, 0, 1, 0, 0])) (head72_2 t ml3_1_a ml3_2) (AExit.inBlock 4 (seqK cfg (know (know72 N)) (drawOk cfg (know (know72 N))) Try.f72.ntmps lv72 (cd Try.f72 [1, 1, 1, 1, 1]) Q))))) := by kernel_rfl
  exact e.mpr h
theorem vc72_l2 (N : Nat) (t : Tree) (ml3_1_a : List Int) (ml3_2_b : List Tree) (N2 : LSt U → Prop) (Q : AExit → LSt U → Prop) (h : ((decide ((0 : Int) < (ml3_2_b.length : Int))) = true → (decide ((0 : Int) < (ml3_2_b.length : Int))) = true) ∧ ((decide ((0 : Int) < (ml3_2_b.length : Int))) = true → (decide ((0 : Int) < (ml3_2_b.length : Int))) = true) ∧ ((decide ((0 : Int) < (ml3_2_b.length : Int))) = true → (decide ((0 : Int) < (ml3_2_b.length : Int))) = true) ∧ ((decide ((0 : Int) < (ml3_2_b.length : Int))) = true → (decide ((0 : Int) < (ml3_2_b.length : Int))) = true) ∧ ((decide ((0 : Int) < (ml3_2_b.length : Int))) = true → InR (((ml3_2_b.length : Int) : Int) - 1)) ∧ ((decide ((0 : Int) < (ml3_2_b.length : Int))) = true → (decide ((0 : Int) < (ml3_2_b.length : Int))) = true) ∧ ((decide ((0 : Int) < (ml3_2_b.length : Int))) = true → (decide ((0 : Int) < (ml3_2_b.length : Int))) = true) ∧ ((decide ((0 : Int) < (ml3_2_b.length : Int))) = true → 0 ≤ (((ml3_2_b.length : Int) : Int) - 1) ∧ (((ml3_2_b.length : Int) : Int) - 1) < (ml3_2_b.length : Int)) ∧ ((decide ((0 : Int) < (ml3_2_b.length : Int))) = true → (decide ((0 : Int) < (ml3_2_b.length : Int))) = true) ∧ ((decide ((0 : Int) < (ml3_2_b.length : Int))) = true → (decide ((0 : Int) < (ml3_2_b.length : Int))) = true) ∧ ((decide ((0 : Int) < (ml3_2_b.length : Int))) = true → (decide ((0 : Int) < (ml3_2_b.length : Int))) = true) ∧ (((decide ((0 : Int) < (ml3_2_b.length : Int))) = true → (decide ((0 : Int) < (ml3_2_b.length : Int))) = true)) ∧ (((bif (decide ((0 : Int) < (ml3_2_b.length : Int))) then (((Tree.kind (List.getD ml3_2_b (Int.toNat (((ml3_2_b.length : Int) : Int) - 1)) Tree.nil)) : Int) == 0) else false) = true → (InR (((ml3_2_b.length : Int) : Int) - 1)) ∧ (0 ≤ (((ml3_2_b.length : Int) : Int) - 1) ∧ (((ml3_2_b.length : Int) : Int) - 1) ≤ (ml3_2_b.length : Int)) ∧ (N2 (head72_2 t ml3_1_a (List.take (Int.toNat (((ml3_2_b.length : Int) : Int) - 1)) ml3_2_b)))) ∧ ((bif (decide ((0 : Int) < (ml3_2_b.length : Int))) then (((Tree.kind (List.getD ml3_2_b (Int.toNat (((ml3_2_b.length : Int) : Int) - 1)) Tree.nil)) : Int) == 0) else false) = false → (Q .ret (⟨[(2, .ptr (.loc 2) 0)], [((.loc 2), [.int .i64 (Tree.kind t), .slice (U := U) .u64 ml3_1_a .unk, .slice (U := U) .tree ml3_2_b .unk])], []⟩ : LSt U))))) :
    awp cfg (know (know72 N)) (drawOk cfg (know (know72 N))) Try.f72.ntmps lv72 (cd Try.f72 [1, 1, 1, 1, 0, 1, 0, 1, 0, 0]) (head72_2 t ml3_1_a ml3_2_b) (AExit.then N2 (AExit.inBlock 4 (seqK cfg (know (know72 N)) (drawOk cfg (know (know72 N))) Try.f72.ntmps lv72 (cd Try.f72 [1, 1, 1, 1, 1]) Q))) := by
  have e : (awp cfg (know (know72 N)) (drawOk cfg (know (know72 N))) Try.f72.ntmps lv72 (cd Try.f72 [1, 1, 1, 1, 0, 1, 0, 1, 0, 0]) (head72_2 t ml3_1_a ml3_2_b) (AExit.then N2 (AExit.inBlock 4 (seqK cfg (know (know72 N)) (drawOk cfg (know (know72 N))) Try.f72.ntmps lv72 (cd Try.f72 [1, 1, 1, 1, 1]) Q)))) = (((decide ((0 : Int) < (ml3_2_b.length : Int))) = true → (decide ((0 : Int) < (ml3_2_b.length : Int))) = true) ∧ ((decide ((0 : Int) < (ml3_2_b.length : Int))) = true → (decide ((0 : Int) < (ml3_2_b.length : Int))) = true) ∧ ((decide ((0 : Int) < (ml3_2_b.length : Int))) = true → (decide ((0 : Int) < (ml3_2_b.length : Int))) = true) ∧ ((decide ((0 : Int) < (ml3_2_b.length : Int))) = true → (decide ((0 : Int) < (ml3_2_b.length : Int))) = true) ∧ ((decide ((0 : Int) < (ml3_2_b.length : Int))) = true → InR (((ml3_2_b.length : Int) : Int) - 1)) ∧ ((decide ((0 : Int) < (ml3_2_b.length : Int))) = true → (decide ((0 : Int) < (ml3_2_b.length : Int))) = true) ∧ ((decide ((0 : Int) < (ml3_2_b.length : Int))) = true → (decide ((0 : Int) < (ml3_2_b.length : Int))) = true) ∧ ((decide ((0 : Int) < (ml3_2_b.length : Int))) = true → 0 ≤ (((ml3_2_b.length : Int) : Int) - 1) ∧ (((ml3_2_b.length : Int) : Int) - 1) < (ml3_2_b.length : Int)) ∧ ((decide ((0 : Int) < (ml3_2_b.length : Int))) = true → (decide ((0 : Int) < (ml3_2_b.length : Int))) = true) ∧ ((decide ((0 : Int) < (ml3_2_b.length : Int))) = true → (decide ((0 : Int) < (ml3_2_b.length : Int))) = true) ∧ ((decide ((0 : Int) < (ml3_2_b.length : Int))) = true → (decide ((0 : Int) < (ml3_2_b.length : Int))) = true) ∧ (((decide ((0 : Int) < (ml3_2_b.length : Int))) = true → (decide ((0 : Int) < (ml3_2_b.length : Int))) = true)) ∧ (((bif (decide ((0 : Int) < (ml3_2_b.length : Int))) then (((Tree.kind (List.getD ml3_2_b (Int.toNat (((ml3_2_b.length : Int) : Int) - 1)) Tree.nil)) : Int) == 0) else false) = true → (InR (((ml3_2_b.length : Int) : Int) - 1)) ∧ (0 ≤ (((ml3_2_b.length : Int) : Int) - 1) ∧ (((ml3_2_b.length : Int) : Int) - 1) ≤ (ml3_2_b.length : Int)) ∧ (N2 (head72_2 t ml3_1_a (List.take (Int.toNat (((ml3_2_b.length : Int) : Int) - 1)) ml3_2_b)))) ∧ ((bif (decide ((0 : Int) < (ml3_2_b.length : Int))) then (((Tree.kind (List.getD ml3_2_b (Int.toNat (((ml3_2_b.length : Int) : Int) - 1)) Tree.nil)) : Int) == 0) else false) = false → (Q .ret (⟨[(2, .ptr (.loc 2) 0)], [((.loc 2), [.int .i64 (Tree.kind t), .slice (U := U) .u64 ml3_1_a .unk, .slice (U := U) .tree ml3_2_b .unk])], []⟩ : LSt U))))) := by kernel_rfl
  exact e.mpr h
def Body72 (N : Nat) (t : Tree)  : Prop := awp cfg (know (know72 N)) (drawOk cfg (know (know72 N))) Try.f72.ntmps lv72 (cd Try.f72 []) (entry (args72.can (t, ())) []) (EndsQ cfg Try.f72.ntmps Try.f72.results.toList (res72 (t, ())) [])
theorem make72 (c60 : Contract Try.prog cfg 60 spec60) (hb : ∀ (N : Nat) (t : Tree) (_ : Unit), pre72 (t, ()) → mu72 (t, ()) < N + 1 → Body72 N t) : Contract Try.prog cfg 72 spec72 :=
  contract_rec (μ := mu72) (l := [(60, spec60)]) cfgOk rfl (⟨c60, trivial⟩) lv72 Try.func72 rfl rfl 1 (fun _ => rfl) (by decide) (fun N ⟨t, _⟩ => hb N t ())

noncomputable def know49 (N : Nat) : List (FuncId × Fs U) := (49, fs args49 (fun a => [pre49 a, mu49 a < N]) res49) :: [(37, spec37)]
def lv49 : Lives U := fun i => match i with
  | 0 => ([(2, []), (3, [])], [((.loc 2), []), ((.loc 3), [])])
  | 1 => ([(2, []), (3, []), (27, [])], [((.loc 2), []), ((.loc 3), [])])
  | 2 => ([(4, [])], [])
  | 3 => ([(2, []), (3, []), (5, [])], [((.loc 2), []), ((.loc 3), [])])
  | 4 => ([(2, []), (3, []), (5, []), (32, [])], [((.loc 2), []), ((.loc 3), [])])
  | 5 => ([(2, []), (3, []), (5, [])], [((.loc 2), []), ((.loc 3), [])])
  | 6 => ([(2, []), (3, []), (5, []), (46, [])], [((.loc 2), []), ((.loc 3), [])])
  | 7 => ([(4, [])], [])
  | 8 => ([(4, [])], [])
  | _ => ([], [])
def head49_0 (a : Tree) (b : Tree) (x5 : Int) : LSt U := (⟨[(2, .ptr (.loc 2) 0), (3, .ptr (.loc 3) 0), (5, .c (.int .i64 x5))], [((.loc 2), [.int .i64 (Tree.kind a), .slice (U := U) .u64 (Tree.words a) .unk, .slice (U := U) .tree (Tree.kids a) .unk]), ((.loc 3), [.int .i64 (Tree.kind b), .slice (U := U) .u64 (Tree.words b) .unk, .slice (U := U) .tree (Tree.kids b) .unk])], []⟩ : LSt U)
theorem vc49 (N : Nat) (a : Tree) (b : Tree) (Q : AExit → LSt U → Prop) (h : (((!(((Tree.kind a) : Int) != (Tree.kind b))) = true → (!(((Tree.kind a) : Int) != (Tree.kind b))) = true) ∧ ((!(((Tree.kind a) : Int) != (Tree.kind b))) = true → (!(((Tree.kind a) : Int) != (Tree.kind b))) = true) ∧ ((!(((Tree.kind a) : Int) != (Tree.kind b))) = true → (!(((Tree.kind a) : Int) != (Tree.kind b))) = true) ∧ ((!(((Tree.kind a) : Int) != (Tree.kind b))) = true → (!(((Tree.kind a) : Int) != (Tree.kind b))) = true) ∧ ((!(((Tree.kind a) : Int) != (Tree.kind b))) = true → pre37 ((Tree.words a), (Tree.words b), ())) ∧ ((!(((Tree.kind a) : Int) != (Tree.kind b))) = true → (!(((Tree.kind a) : Int) != (Tree.kind b))) = true) ∧ (((((Tree.kind a) : Int) != (Tree.kind b)) = false → (!(((Tree.kind a) : Int) != (Tree.kind b))) = true)) ∧ ((!(bif (((Tree.kind a) : Int) != (Tree.kind b)) then true else (!(decide ((Tree.words a) = (Tree.words b)))))) = true → (!(bif (((Tree.kind a) : Int) != (Tree.kind b)) then true else (!(decide ((Tree.words a) = (Tree.words b)))))) = true) ∧ ((!(bif (((Tree.kind a) : Int) != (Tree.kind b)) then true else (!(decide ((Tree.words a) = (Tree.words b)))))) = true → (!(bif (((Tree.kind a) : Int) != (Tree.kind b)) then true else (!(decide ((Tree.words a) = (Tree.words b)))))) = true) ∧ ((!(bif (((Tree.kind a) : Int) != (Tree.kind b)) then true else (!(decide ((Tree.words a) = (Tree.words b)))))) = true → (!(bif (((Tree.kind a) : Int) != (Tree.kind b)) then true else (!(decide ((Tree.words a) = (Tree.words b)))))) = true) ∧ ((!(bif (((Tree.kind a) : Int) != (Tree.kind b)) then true else (!(decide ((Tree.words a) = (Tree.words b)))))) = true → (!(bif (((Tree.kind a) : Int) != (Tree.kind b)) then true else (!(decide ((Tree.words a) = (Tree.words b)))))) = true) ∧ ((!(bif (((Tree.kind a) : Int) != (Tree.kind b)) then true else (!(decide ((Tree.words a) = (Tree.words b)))))) = true → (!(bif (((Tree.kind a) : Int) != (Tree.kind b)) then true else (!(decide ((Tree.words a) = (Tree.words b)))))) = true) ∧ ((!(bif (((Tree.kind a) : Int) != (Tree.kind b)) then true else (!(decide ((Tree.words a) = (Tree.words b)))))) = true → (!(bif (((Tree.kind a) : Int) != (Tree.kind b)) then true else (!(decide ((Tree.words a) = (Tree.words b)))))) = true) ∧ (((bif (((Tree.kind a) : Int) != (Tree.kind b)) then true else (!(decide ((Tree.words a) = (Tree.words b))))) = false → (!(bif (((Tree.kind a) : Int) != (Tree.kind b)) then true else (!(decide ((Tree.words a) = (Tree.words b)))))) = true)) ∧ (((bif (bif (((Tree.kind a) : Int) != (Tree.kind b)) then true else (!(decide ((Tree.words a) = (Tree.words b))))) then true else ((((Tree.kids a).length : Int) : Int) != ((Tree.kids b).length : Int))) = true → (Q .ret (⟨[(4, .c (.bool false))], [], []⟩ : LSt U))) ∧ ((bif (bif (((Tree.kind a) : Int) != (Tree.kind b)) then true else (!(decide ((Tree.words a) = (Tree.words b))))) then true else ((((Tree.kids a).length : Int) : Int) != ((Tree.kids b).length : Int))) = false → (LoopWp (awp cfg (know (know49 N)) (drawOk cfg (know (know49 N))) Try.f49.ntmps lv49 (cd Try.f49 [1, 1, 0, 1, 0, 0])) (head49_0 a b 0) (AExit.inBlock 0 (seqK cfg (know (know49 N)) (drawOk cfg (know (know49 N))) Try.f49.ntmps lv49 (cd Try.f49 [1, 1, 1]) Q))))))) :
    awp cfg (know (know49 N)) (drawOk cfg (know (know49 N))) Try.f49.ntmps lv49 (cd Try.f49 []) (⟨[(0, .agg [.int .i64 (Tree.kind a), .slice (U := U) .u64 (Tree.words a) .unk, .slice (U := U) .tree (Tree.kids a) .unk]), (1, .agg [.int .i64 (Tree.kind b), .slice (U := U) .u64 (Tree.words b) .unk, .slice (U := U) .tree (Tree.kids b) .unk])], [], []⟩ : LSt U) Q := by
  have e : (awp cfg (know (know49 N)) (drawOk cfg (know (know49 N))) Try.f49.ntmps lv49 (cd Try.f49 []) (⟨[(0, .agg [.int .i64 (Tree.kind a), .slice (U := U) .u64 (Tree.words a) .unk, .slice (U := U) .tree (Tree.kids a) .unk]), (1, .agg [.int .i64 (Tree.kind b), .slice (U := U) .u64 (Tree.words b) .unk, .slice (U := U) .tree (Tree.kids b) .unk])], [], []⟩ : LSt U) Q) = ((((!(((Tree.kind a) : Int) != (Tree.kind b))) = true → (!(((Tree.kind a) : Int) != (Tree.kind b))) = true) ∧ ((!(((Tree.kind a) : Int) != (Tree.kind b))) = true → (!(((Tree.kind a) : Int) != (Tree.kind b))) = true) ∧ ((!(((Tree.kind a) : Int) != (Tree.kind b))) = true → (!(((Tree.kind a) : Int) != (Tree.kind b))) = true) ∧ ((!(((Tree.kind a) : Int) != (Tree.kind b))) = true → (!(((Tree.kind a) : Int) != (Tree.kind b))) = true) ∧ ((!(((Tree.kind a) : Int) != (Tree.kind b))) = true → pre37 ((Tree.words a), (Tree.words b), ())) ∧ ((!(((Tree.kind a) : Int) != (Tree.kind b))) = true → (!(((Tree.kind a) : Int) != (Tree.kind b))) = true) ∧ (((((Tree.kind a) : Int) != (Tree.kind b)) = false → (!(((Tree.kind a) : Int) != (Tree.kind b))) = true)) ∧ ((!(bif (((Tree.kind a) : Int) != (Tree.kind b)) then true else (!(decide ((Tree.words a) = (Tree.words b)))))) = true → (!(bif (((Tree.kind a) : Int) != (Tree.kind b)) then true else (!(decide ((Tree.words a) = (Tree.words b)))))) = true) ∧ ((!(bif (((Tree.kind a) : Int) != (Tree.kind b)) then true else (!(decide ((Tree.words a) = (Tree.words b)))))) = true → (!(bif (((Tree.kind a) : Int) != (Tree.kind b)) then true else (!(decide ((Tree.words a) = (Tree.words b)))))) = true) ∧ ((!(bif (((Tree.kind a) : Int) != (Tree.kind b)) then true else (!(decide ((Tree.words a) = (Tree.words b)))))) = true → (!(bif (((Tree.kind a) : Int) != (Tree.kind b)) then true else (!(decide ((Tree.words a) = (Tree.words b)))))) = true) ∧ ((!(bif (((Tree.kind a) : Int) != (Tree.kind b)) then true else (!(decide ((Tree.words a) = (Tree.words b)))))) = true → (!(bif (((Tree.kind a) : Int) != (Tree.kind b)) then true else (!(decide ((Tree.words a) = (Tree.words b)))))) = true) ∧ ((!(bif (((Tree.kind a) : Int) != (Tree.kind b)) then true else (!(decide ((Tree.words a) = (Tree.words b)))))) = true → (!(bif (((Tree.kind a) : Int) != (Tree.kind b)) then true else (!(decide ((Tree.words a) = (Tree.words b)))))) = true) ∧ ((!(bif (((Tree.kind a) : Int) != (Tree.kind b)) then true else (!(decide ((Tree.words a) = (Tree.words b)))))) = true → (!(bif (((Tree.kind a) : Int) != (Tree.kind b)) then true else (!(decide ((Tree.words a) = (Tree.words b)))))) = true) ∧ (((bif (((Tree.kind a) : Int) != (Tree.kind b)) then true else (!(decide ((Tree.words a) = (Tree.words b))))) = false → (!(bif (((Tree.kind a) : Int) != (Tree.kind b)) then true else (!(decide ((Tree.words a) = (Tree.words b)))))) = true)) ∧ (((bif (bif (((Tree.kind a) : Int) != (Tree.kind b)) then true else (!(decide ((Tree.words a) = (Tree.words b))))) then true else ((((Tree.kids a).length : Int) : Int) != ((Tree.kids b).length : Int))) = true → (Q .ret (⟨[(4, .c (.bool false))], [], []⟩ : LSt U))) ∧ ((bif (bif (((Tree.kind a) : Int) != (Tree.kind b)) then true else (!(decide ((Tree.words a) = (Tree.words b))))) then true else ((((Tree.kids a).length : Int) : Int) != ((Tree.kids b).length : Int))) = false → (LoopWp (awp cfg (know (know49 N)) (drawOk cfg (know (know49 N))) Try.f49.ntmps lv49 (cd Try.f49 [1, 1, 0, 1, 0, 0])) (head49_0 a b 0) (AExit.inBlock 0 (seqK cfg (know (know49 N)) (drawOk cfg (know (know49 N))) Try.f49.ntmps lv49 (cd Try.f49 [1, 1, 1]) Q))))))) := by kernel_rfl
  exact e.mpr h
theorem vc49_l0 (N : Nat) (a : Tree) (b : Tree) (x5 : Int) (N0 : LSt U → Prop) (Q : AExit → LSt U → Prop) (h : (((decide ((x5 : Int) < ((Tree.kids a).length : Int))) = true → (0 ≤ x5 ∧ x5 < ((Tree.kids a).length : Int)) ∧ (0 ≤ x5 ∧ x5 < ((Tree.kids b).length : Int)) ∧ (pre49 ((Tree.mk (Tree.kind (List.getD (Tree.kids a) (Int.toNat x5) Tree.nil)) (Tree.words (List.getD (Tree.kids a) (Int.toNat x5) Tree.nil)) (Tree.kids (List.getD (Tree.kids a) (Int.toNat x5) Tree.nil))), (Tree.mk (Tree.kind (List.getD (Tree.kids b) (Int.toNat x5) Tree.nil)) (Tree.words (List.getD (Tree.kids b) (Int.toNat x5) Tree.nil)) (Tree.kids (List.getD (Tree.kids b) (Int.toNat x5) Tree.nil))), ())) ∧ (mu49 ((Tree.mk (Tree.kind (List.getD (Tree.kids a) (Int.toNat x5) Tree.nil)) (Tree.words (List.getD (Tree.kids a) (Int.toNat x5) Tree.nil)) (Tree.kids (List.getD (Tree.kids a) (Int.toNat x5) Tree.nil))), (Tree.mk (Tree.kind (List.getD (Tree.kids b) (Int.toNat x5) Tree.nil)) (Tree.words (List.getD (Tree.kids b) (Int.toNat x5) Tree.nil)) (Tree.kids (List.getD (Tree.kids b) (Int.toNat x5) Tree.nil))), ()) < N) ∧ (((!(sameT (Tree.mk (Tree.kind (List.getD (Tree.kids a) (Int.toNat x5) Tree.nil)) (Tree.words (List.getD (Tree.kids a) (Int.toNat x5) Tree.nil)) (Tree.kids (List.getD (Tree.kids a) (Int.toNat x5) Tree.nil))) (Tree.mk (Tree.kind (List.getD (Tree.kids b) (Int.toNat x5) Tree.nil)) (Tree.words (List.getD (Tree.kids b) (Int.toNat x5) Tree.nil)) (Tree.kids (List.getD (Tree.kids b) (Int.toNat x5) Tree.nil))))) = true → (Q .ret (⟨[(4, .c (.bool false))], [], []⟩ : LSt U))) ∧ ((!(sameT (Tree.mk (Tree.kind (List.getD (Tree.kids a) (Int.toNat x5) Tree.nil)) (Tree.words (List.getD (Tree.kids a) (Int.toNat x5) Tree.nil)) (Tree.kids (List.getD (Tree.kids a) (Int.toNat x5) Tree.nil))) (Tree.mk (Tree.kind (List.getD (Tree.kids b) (Int.toNat x5) Tree.nil)) (Tree.words (List.getD (Tree.kids b) (Int.toNat x5) Tree.nil)) (Tree.kids (List.getD (Tree.kids b) (Int.toNat x5) Tree.nil))))) = false → (InR ((x5 : Int) + 1)) ∧ (N0 (head49_0 a b ((x5 : Int) + 1)))))) ∧ ((decide ((x5 : Int) < ((Tree.kids a).length : Int))) = false → (Q .ret (⟨[(4, .c (.bool true))], [], []⟩ : LSt U))))) :
    awp cfg (know (know49 N)) (drawOk cfg (know (know49 N))) Try.f49.ntmps lv49 (cd Try.f49 [1, 1, 0, 1, 0, 0]) (head49_0 a b x5) (AExit.then N0 (AExit.inBlock 0 (seqK cfg (know (know49 N)) (drawOk cfg (know (know49 N))) Try.f49.ntmps lv49 (cd Try.f49 [1, 1, 1]) Q))) := by
  have e : (awp cfg (know (know49 N)) (drawOk cfg (know (know49 N))) Try.f49.ntmps lv49 (cd Try.f49 [1, 1, 0, 1, 0, 0]) (head49_0 a b x5) (AExit.then N0 (AExit.inBlock 0 (seqK cfg (know (know49 N)) (drawOk cfg (know (know49 N))) Try.f49.ntmps lv49 (cd Try.f49 [1, 1, 1]) Q)))) = ((((decide ((x5 : Int) < ((Tree.kids a).length : Int))) = true → (0 ≤ x5 ∧ x5 < ((Tree.kids a).length : Int)) ∧ (0 ≤ x5 ∧ x5 < ((Tree.kids b).length : Int)) ∧ (pre49 ((Tree.mk (Tree.kind (List.getD (Tree.kids a) (Int.toNat x5) Tree.nil)) (Tree.words (List.getD (Tree.kids a) (Int.toNat x5) Tree.nil)) (Tree.kids (List.getD (Tree.kids a) (Int.toNat x5) Tree.nil))), (Tree.mk (Tree.kind (List.getD (Tree.kids b) (Int.toNat x5) Tree.nil)) (Tree.words (List.getD (Tree.kids b) (Int.toNat x5) Tree.nil)) (Tree.kids (List.getD (Tree.kids b) (Int.toNat x5) Tree.nil))), ())) ∧ (mu49 ((Tree.mk (Tree.kind (List.getD (Tree.kids a) (Int.toNat x5) Tree.nil)) (Tree.words (List.getD (Tree.kids a) (Int.toNat x5) Tree.nil)) (Tree.kids (List.getD (Tree.kids a) (Int.toNat x5) Tree.nil))), (Tree.mk (Tree.kind (List.getD (Tree.kids b) (Int.toNat x5) Tree.nil)) (Tree.words (List.getD (Tree.kids b) (Int.toNat x5) Tree.nil)) (Tree.kids (List.getD (Tree.kids b) (Int.toNat x5) Tree.nil))), ()) < N) ∧ (((!(sameT (Tree.mk (Tree.kind (List.getD (Tree.kids a) (Int.toNat x5) Tree.nil)) (Tree.words (List.getD (Tree.kids a) (Int.toNat x5) Tree.nil)) (Tree.kids (List.getD (Tree.kids a) (Int.toNat x5) Tree.nil))) (Tree.mk (Tree.kind (List.getD (Tree.kids b) (Int.toNat x5) Tree.nil)) (Tree.words (List.getD (Tree.kids b) (Int.toNat x5) Tree.nil)) (Tree.kids (List.getD (Tree.kids b) (Int.toNat x5) Tree.nil))))) = true → (Q .ret (⟨[(4, .c (.bool false))], [], []⟩ : LSt U))) ∧ ((!(sameT (Tree.mk (Tree.kind (List.getD (Tree.kids a) (Int.toNat x5) Tree.nil)) (Tree.words (List.getD (Tree.kids a) (Int.toNat x5) Tree.nil)) (Tree.kids (List.getD (Tree.kids a) (Int.toNat x5) Tree.nil))) (Tree.mk (Tree.kind (List.getD (Tree.kids b) (Int.toNat x5) Tree.nil)) (Tree.words (List.getD (Tree.kids b) (Int.toNat x5) Tree.nil)) (Tree.kids (List.getD (Tree.kids b) (Int.toNat x5) Tree.nil))))) = false → (InR ((x5 : Int) + 1)) ∧ (N0 (head49_0 a b ((x5 : Int) + 1)))))) ∧ ((decide ((x5 : Int) < ((Tree.kids a).length : Int))) = false → (Q .ret (⟨[(4, .c (.bool true))], [], []⟩ : LSt U))))) := by kernel_rfl
  exact e.mpr h
def Body49 (N : Nat) (a : Tree) (b : Tree)  : Prop := awp cfg (know (know49 N)) (drawOk cfg (know (know49 N))) Try.f49.ntmps lv49 (cd Try.f49 []) (entry (args49.can (a, b, ())) []) (EndsQ cfg Try.f49.ntmps Try.f49.results.toList (res49 (a, b, ())) [])
theorem make49 (c37 : Contract Try.prog cfg 37 spec37) (hb : ∀ (N : Nat) (a : Tree) (b : Tree) (_ : Unit), pre49 (a, b, ()) → mu49 (a, b, ()) < N + 1 → Body49 N a b) : Contract Try.prog cfg 49 spec49 :=
  contract_rec (μ := mu49) (l := [(37, spec37)]) cfgOk rfl (⟨c37, trivial⟩) lv49 Try.func49 rfl rfl 2 (fun _ => rfl) (by decide) (fun N ⟨a, b, _⟩ => hb N a b ())

end Go.AM.Ythokdjgpdonhgaa

namespace Go.AM.Ythokdjgpdonhgaa
open Go.AM Go.Proofs


theorem massK_get : ∀ {ks : List Tree} {i : Nat}, i < ks.length → mass (ks.getD i Tree.nil) ≤ massK ks
  | t :: _, 0, _ => by simp only [massK, List.getD_cons_zero]; omega
  | t :: r, i + 1, h => by
    have := massK_get (ks := r) (i := i) (by simpa using h)
    simp only [massK, List.getD_cons_succ]
    omega


theorem dropT_eq {a b : List Tree} {i : Int} (hi : 0 ≤ i) (ha : i < a.length) (hb : i < b.length) : (a.drop i.toNat = b.drop i.toNat) ↔ (a.getD i.toNat Tree.nil = b.getD i.toNat Tree.nil ∧ a.drop (i + 1).toNat = b.drop (i + 1).toNat) := by
  have e : (i + 1).toNat = i.toNat + 1 := by omega
  rw [List.drop_eq_getElem_cons (by omega), List.drop_eq_getElem_cons (l := b) (by omega), e]
  simp only [List.cons.injEq, List.getD, List.getElem?_eq_getElem (show i.toNat < a.length by omega), List.getElem?_eq_getElem (show i.toNat < b.length by omega), Option.getD_some]

theorem sameT_true {a b : Tree} : sameT a b = true ↔ a = b := by simp [sameT]
theorem sameT_false {a b : Tree} : sameT a b = false ↔ ¬ a = b := by simp [sameT]

theorem massK_len : ∀ (ks : List Tree), ks.length ≤ massK ks
  | [] => by simp [massK]
  | t :: r => by
    have := massK_len r
    have : 1 ≤ mass t := by cases t; simp only [mass]; omega
    simp only [massK, List.length_cons]
    omega

theorem c49 : Contract Try.prog cfg 49 spec49 := by
  refine make49 c37 ?_
  rintro N ⟨k, ws, ks⟩ ⟨k', ws', ks'⟩ _ hp hN
  have hlen := massK_len ks
  simp only [pre49, mu49, mass] at hp hN
  refine vc49 N _ _ _ ?_
  (simp only [vcS])
  (simp only [Tree.eta, Tree.kind_mk, Tree.words_mk, Tree.kids_mk])
  have p69 : pre37 (ws, ws', ()) := by simp only [pre37]; omega
  refine ⟨id, id, id, id, fun _ => p69, id, id, id, id, id, id, id, id, by simp, fun hc => ?_, fun hc => ?_⟩
  · have e : sameT (.mk k ws ks) (.mk k' ws' ks') = false := by
      rw [sameT_false]
      intro h
      cases h
      simp at hc
    simp only [res49, e]
    exact ⟨⟨rfl, ⟨rfl, trivial⟩, trivial⟩, trivial⟩
  · have hc' : (k = k' ∧ ws = ws') ∧ ks.length = ks'.length := ⟨hc.1, by have := hc.2; omega⟩
    obtain ⟨⟨rfl, rfl⟩, hl⟩ := hc'
    refine loop_rule (ι := Int) (fun p => head49_0 (.mk k ws ks) (.mk k ws ks') p) (fun p => 0 ≤ p ∧ p ≤ ks.length ∧ (Tree.mk k ws ks = .mk k ws ks' ↔ ks.drop p.toNat = ks'.drop p.toNat)) (fun p => ((ks.length : Int) - p).toNat) 0 rfl ⟨by omega, by omega, by simp⟩ ?_
    rintro i ⟨h1, h2, h3⟩
    refine vc49_l0 N _ _ _ _ _ ?_
    (simp only [vcS])
    (simp only [Tree.eta, Tree.kind_mk, Tree.words_mk, Tree.kids_mk])
    refine ⟨fun hc => ⟨by omega, by omega, ?_, ?_, fun hn => ?_, fun he => ⟨by unfold InR; omega, i + 1, rfl, ⟨by omega, by omega, ?_⟩, by omega⟩⟩, fun hc => ?_⟩
    · have := massK_get (ks := ks) (i := i.toNat) (by omega)
      simp only [pre49]
      omega
    · have := massK_get (ks := ks) (i := i.toNat) (by omega)
      simp only [mu49]
      omega
    · have e : sameT (.mk k ws ks) (.mk k ws ks') = false := by
        rw [sameT_false, h3, dropT_eq h1 hc (by omega)]
        rw [sameT_false] at hn
        exact fun h => hn h.1
      simp only [res49, e]
      exact ⟨⟨rfl, ⟨rfl, trivial⟩, trivial⟩, trivial⟩
    · rw [h3, dropT_eq h1 hc (by omega)]
      exact ⟨fun h => h.2, fun h => ⟨sameT_true.1 he, h⟩⟩
    · have e : sameT (.mk k ws ks) (.mk k ws ks') = true := by
        rw [sameT_true, h3]
        rw [List.drop_eq_nil_of_le (by omega), List.drop_eq_nil_of_le (by omega)]
      simp only [res49, e]
      exact ⟨⟨rfl, ⟨rfl, trivial⟩, trivial⟩, trivial⟩

theorem trim_zero : ∀ (l : List Int), trim (l ++ [0]) = trim l
  | [] => rfl
  | x :: r => by
    show (match trim (r ++ [0]) with | [] => if x = 0 then [] else [x] | y :: s => x :: y :: s) = _
    rw [trim_zero r]
    rfl

theorem trim_ne {x : Int} (hx : x ≠ 0) : ∀ (l : List Int), trim (l ++ [x]) = l ++ [x]
  | [] => by simp [trim, hx]
  | y :: r => by
    show (match trim (r ++ [x]) with | [] => if y = 0 then [] else [y] | z :: s => y :: z :: s) = _
    rw [trim_ne hx r]
    cases r <;> rfl

theorem take_last {l : List Int} {i : Int} (h0 : 0 < i) (hi : i ≤ l.length) : l.take i.toNat = l.take (i - 1).toNat ++ [l.getD (i - 1).toNat 0] := by
  have e : i.toNat = (i - 1).toNat + 1 := by omega
  rw [e, List.take_add_one]
  simp only [List.getD, List.getElem?_eq_getElem (show (i - 1).toNat < l.length by omega), Option.toList, Option.getD_some]


theorem normK_app : ∀ (l : List Tree) (x : Tree), normK (l ++ [x]) = normK l ++ [normT x]
  | [], x => rfl
  | y :: r, x => by simp only [List.cons_append, normK, normK_app r x]

theorem normK_len : ∀ (l : List Tree), (normK l).length = l.length
  | [] => rfl
  | y :: r => by simp only [normK, List.length_cons, normK_len r]

theorem trimK_zero {x : Tree} (hx : x.kind = 0) : ∀ (l : List Tree), trimK (l ++ [x]) = trimK l
  | [] => by simp [trimK, hx]
  | y :: r => by
    show (match trimK (r ++ [x]) with | [] => if y.kind = 0 then [] else [y] | z :: s => y :: z :: s) = _
    rw [trimK_zero hx r]
    rfl

theorem trimK_ne {x : Tree} (hx : x.kind ≠ 0) : ∀ (l : List Tree), trimK (l ++ [x]) = l ++ [x]
  | [] => by simp [trimK, hx]
  | y :: r => by
    show (match trimK (r ++ [x]) with | [] => if y.kind = 0 then [] else [y] | z :: s => y :: z :: s) = _
    rw [trimK_ne hx r]
    cases r <;> rfl

theorem takeT_next {l : List Tree} {i : Int} (h0 : 0 ≤ i) (hi : i < l.length) : l.take (i + 1).toNat = l.take i.toNat ++ [l.getD i.toNat Tree.nil] := by
  have e : (i + 1).toNat = i.toNat + 1 := by omega
  rw [e, List.take_add_one]
  simp only [List.getD, List.getElem?_eq_getElem (show i.toNat < l.length by omega), Option.toList, Option.getD_some]

mutual
theorem weight_range : ∀ (t : Tree), 0 ≤ weight t ∧ weight t + 1 ≤ 2 * (mass t : Int)
  | .mk k w ks => by
    have h1 := weightK_range ks
    have h2 := massK_len ks
    simp only [weight, mass]
    split
    · omega
    · split
      · omega
      · split <;> omega
theorem weightK_range : ∀ (ks : List Tree), 0 ≤ weightK ks ∧ weightK ks + ks.length ≤ 2 * (massK ks : Int)
  | [] => by simp [weightK, massK]
  | t :: r => by
    have h1 := weight_range t
    have h2 := weightK_range r
    simp only [weightK, massK, List.length_cons]
    omega
end

theorem last_eq {l : List Int} (h0 : 0 < (l.length : Int)) : l = l.take ((l.length : Int) - 1).toNat ++ [l.getD ((l.length : Int) - 1).toNat 0] := by
  have := take_last h0 (Int.le_refl _)
  rw [List.take_of_length_le (by omega)] at this
  exact this

theorem lastT_eq {l : List Tree} (h0 : 0 < (l.length : Int)) : l = l.take ((l.length : Int) - 1).toNat ++ [l.getD ((l.length : Int) - 1).toNat Tree.nil] := by
  have := takeT_next (l := l) (i := (l.length : Int) - 1) (by omega) (by omega)
  rw [List.take_of_length_le (by omega)] at this
  exact this

theorem trim_step {l : List Int} (h0 : 0 < (l.length : Int)) (hz : l.getD ((l.length : Int) - 1).toNat 0 = 0) : trim (l.take ((l.length : Int) - 1).toNat) = trim l := by
  have e := trim_zero (l.take ((l.length : Int) - 1).toNat)
  have h := last_eq h0
  rw [hz] at h
  rw [← h] at e
  exact e.symm

theorem trim_done {l : List Int} (h : ¬ 0 < (l.length : Int) ∨ ¬ l.getD ((l.length : Int) - 1).toNat 0 = 0) : trim l = l := by
  by_cases h0 : 0 < (l.length : Int)
  · have e := trim_ne (x := l.getD ((l.length : Int) - 1).toNat 0) (by rcases h with h | h; exact absurd h0 h; exact h) (l.take ((l.length : Int) - 1).toNat)
    rw [← last_eq h0] at e
    exact e
  · have : l = [] := List.eq_nil_of_length_eq_zero (by omega)
    subst this
    rfl

theorem trimK_step {l : List Tree} (h0 : 0 < (l.length : Int)) (hz : (l.getD ((l.length : Int) - 1).toNat Tree.nil).kind = 0) : trimK (l.take ((l.length : Int) - 1).toNat) = trimK l := by
  have e := trimK_zero hz (l.take ((l.length : Int) - 1).toNat)
  rw [← lastT_eq h0] at e
  exact e.symm

theorem trimK_done {l : List Tree} (h : ¬ 0 < (l.length : Int) ∨ ¬ (l.getD ((l.length : Int) - 1).toNat Tree.nil).kind = 0) : trimK l = l := by
  by_cases h0 : 0 < (l.length : Int)
  · have e := trimK_ne (x := l.getD ((l.length : Int) - 1).toNat Tree.nil) (by rcases h with h | h; exact absurd h0 h; exact h) (l.take ((l.length : Int) - 1).toNat)
    rw [← lastT_eq h0] at e
    exact e
  · have : l = [] := List.eq_nil_of_length_eq_zero (by omega)
    subst this
    rfl

theorem c72 : Contract Try.prog cfg 72 spec72 := by
  refine make72 c60 ?_
  rintro N ⟨k, ws, ks⟩ _ hp hN
  have hlen := massK_len ks
  simp only [pre72, mu72, mass] at hp hN
  refine vc72 N _ _ ?_
  (simp only [vcS])
  (simp only [Tree.eta, Tree.kind_mk, Tree.words_mk, Tree.kids_mk])
  refine ⟨fun hc => ?_, fun hc0 => ⟨by simp only [pre60]; omega, ?_⟩⟩
  · have e : normT (.mk k ws ks) = Tree.nil := by simp [normT, hc]
    simp only [res72, e]
    exact ⟨⟨rfl, ⟨⟨rfl, rfl⟩, ⟨rfl, ⟨rfl, trivial⟩⟩⟩, trivial⟩, trivial⟩
  · refine loop_rule (ι := Int × List Tree) (fun p => head72_0 (.mk k ws ks) p.1 p.2) (fun p => 0 ≤ p.1 ∧ p.1 ≤ ks.length ∧ p.2 = normK (ks.take p.1.toNat)) (fun p => ((ks.length : Int) - p.1).toNat) (0, []) rfl ⟨by dsimp only; omega, by dsimp only; omega, rfl⟩ ?_
    rintro ⟨i, l⟩ ⟨h1, h2, h5⟩
    dsimp only at *
    have hl : l.length = i.toNat := by rw [h5, normK_len, List.length_take]; omega
    refine vc72_l0 N _ _ _ _ _ ?_
    (simp only [vcS])
    (simp only [Tree.eta, Tree.kind_mk, Tree.words_mk, Tree.kids_mk])
    refine ⟨fun hc => ?_, fun hc => ⟨fun hk => ?_, fun hk => ?_⟩⟩
    · have hm := massK_get (ks := ks) (i := i.toNat) (by omega)
      have hnx : normK (ks.take (i + 1).toNat) = l ++ [normT (ks.getD i.toNat Tree.nil)] := by rw [takeT_next h1 hc, normK_app, h5]
      exact ⟨by omega, by simp only [pre72]; omega, by simp only [mu72]; omega, by simp only [List.length_cons, List.length_nil]; omega, by unfold InR; omega, (i + 1, _), rfl, ⟨by dsimp only; omega, by dsimp only; omega, hnx.symm⟩, by dsimp only; omega⟩
    · have hi : ks.take i.toNat = ks := List.take_of_length_le (by omega)
      rw [hi] at h5
      refine loop_rule (ι := List Int) (fun p => head72_1 (.mk k ws ks) l p) (fun p => p.length ≤ ws.length ∧ trim p = trim ws) (fun p => p.length) ws rfl ⟨by omega, rfl⟩ ?_
      rintro w ⟨h6, h7⟩
      refine vc72_l1 N _ _ _ _ _ ?_
      (simp only [vcS])
      refine ⟨id, id, id, id, fun h => by unfold InR; omega, id, id, fun h => by omega, id, id, id, fun hc => ⟨by unfold InR; omega, by omega, _, rfl, ⟨by rw [List.length_take]; omega, ?_⟩, by rw [List.length_take]; omega⟩, fun hc => ?_⟩
      · rw [trim_step hc.1 hc.2, h7]
      · have hw : w = trim ws := by rw [← h7, trim_done hc]
        refine loop_rule (ι := List Tree) (fun p => head72_2 (.mk k ws ks) w p) (fun p => p.length ≤ l.length ∧ trimK p = trimK l) (fun p => p.length) l rfl ⟨by omega, rfl⟩ ?_
        rintro q ⟨h8, h9⟩
        refine vc72_l2 N _ _ _ _ _ ?_
        (simp only [vcS])
        refine ⟨id, id, id, id, fun h => by unfold InR; omega, id, id, fun h => by omega, id, id, id, id, fun hc => ⟨by unfold InR; omega, by omega, _, rfl, ⟨by rw [List.length_take]; omega, ?_⟩, by rw [List.length_take]; omega⟩, fun hc => ?_⟩
        · rw [trimK_step hc.1 hc.2, h9]
        · have hq : q = trimK (normK ks) := by rw [← h5, ← h9, trimK_done hc]
          have e : normT (.mk k ws ks) = .mk k w q := by
            subst hk
            simp only [normT, hw, hq]
            rfl
          simp only [res72, e]
          exact ⟨⟨rfl, ⟨⟨rfl, rfl⟩, ⟨rfl, trivial⟩, ⟨rfl, trivial⟩, trivial⟩, trivial⟩, trivial⟩
    · have hi : ks.take i.toNat = ks := List.take_of_length_le (by omega)
      rw [hi] at h5
      have e : normT (.mk k ws ks) = .mk k ws l := by simp only [normT, if_neg hc0, if_neg hk, h5]
      simp only [res72, e]
      exact ⟨⟨rfl, ⟨⟨rfl, rfl⟩, ⟨rfl, trivial⟩, ⟨rfl, trivial⟩, trivial⟩, trivial⟩, trivial⟩

end Go.AM.Ythokdjgpdonhgaa

namespace Go.AM.Ythokdjgpdonhgaa
open Go.AM




mutual
theorem mass_weight : ∀ (t : Tree) (d : Int), rightT t d = true → (mass t : Int) ≤ 2 * weight t + (if t.kind = 0 then 1 else 0)
  | .mk k w ks, d, h => by
    rw [rightT] at h
    show (mass (.mk k w ks) : Int) ≤ _ + (if k = 0 then 1 else 0)
    rw [mass, weight]
    split at h
    · rename_i hk
      have := of_decide_eq_true h
      rw [if_pos hk, if_pos hk, this.1, List.length_eq_zero_iff.1 this.2, massK]
      omega
    · rename_i hk
      rw [if_neg hk, if_neg hk]
      split at h
      · rename_i hk
        have := of_decide_eq_true h
        rw [if_neg (by omega), if_neg (by omega), this.1, List.length_eq_zero_iff.1 this.2, massK, weightK]
        omega
      · split at h
        · cases h
        · split at h
          · rename_i h1
            have h' := (Bool.and_eq_true _ _ ▸ h)
            have := massK_weight 1 ks (d - 1) h'.2
            rw [if_pos h1]
            rw [if_neg (by omega)] at this
            omega
          · rename_i h1
            have h' := (Bool.and_eq_true _ _ ▸ h)
            have := massK_weight k ks (d - 1) h'.2
            have hw := of_decide_eq_true h'.1
            rw [if_neg h1]
            split
            · rename_i h8
              rw [if_neg (by omega)] at this
              omega
            · rename_i h8
              rw [if_pos (by omega)] at this
              omega
theorem massK_weight (i : Int) : ∀ (ks : List Tree) (d : Int), rightK i ks d = true → (massK ks : Int) ≤ 2 * weightK ks + (if 2 ≤ i ∧ i ≤ 7 ∨ i = 9 then 0 else (ks.length : Int))
  | [], _, _ => by rw [massK, weightK]; split <;> simp
  | t :: r, d, h => by
    rw [rightK] at h
    have h' := (Bool.and_eq_true _ _ ▸ h)
    have h3 := (Bool.and_eq_true _ _ ▸ h'.1)
    have h4 := mass_weight t d h3.2
    have h5 := massK_weight i r d h'.2
    rw [massK, weightK, List.length_cons]
    split
    · rename_i hi
      rw [if_pos hi] at h5
      have hk : t.kind ≠ 0 := by
        intro e
        have := h3.1
        unfold kidB at this
        split at this
        · have := (of_decide_eq_true (Bool.and_eq_true _ _ ▸ this).1); omega
        · rw [if_pos (by omega)] at this
          have := of_decide_eq_true this; omega
      rw [if_neg hk] at h4
      omega
    · rename_i hi
      rw [if_neg hi] at h5
      split at h4 <;> omega
end

theorem wordsX_rng {l : List (List Int)} (hl : okSeg l) {x : XRef} (hx : OkX l x) : (∀ y ∈ wordsX l x, 0 ≤ y ∧ y < 18446744073709551616) ∧ ((wordsX l x).length : Int) = (if x.kind = 10 then 1 else if x.kind = 1 then x.data else 0) := by
  unfold wordsX
  split
  · refine ⟨fun y hy => ?_, rfl⟩
    rw [List.mem_singleton.1 hy]; exact hx.n
  · split
    · rename_i h1
      refine ⟨fun y hy => (okSeg_at hl x.s).2 y (List.mem_of_mem_drop (List.mem_of_mem_take hy)), ?_⟩
      have := hasN_iff.1 (hx.one h1)
      have := hx.data
      have := hx.ptrs
      have := hx.at_
      rw [List.length_take, List.length_drop]
      omega
    · exact ⟨fun y hy => (by cases hy), rfl⟩

theorem getW_fits {l : List Int} (h : ∀ x ∈ l, 0 ≤ x ∧ x < 18446744073709551616) (c i : Int) (hc : 0 ≤ c ∧ c ≤ 5) : fits c (getW l c i) = true := by
  have hw : 0 ≤ wd c := by
    unfold wd; repeat' split
    all_goals omega
  refine decide_eq_true ⟨hw, ?_⟩
  unfold getW
  split
  · exact Int.pow_pos (by decide)
  · exact Int.emod_lt_of_pos _ (Int.pow_pos (by decide))

theorem loopM_all {f : Int → Int → Tree × Int × Int} {P : Tree → Prop} {N c : Int}
    (hf : ∀ i left, 0 ≤ i → i < N → 0 ≤ left → left ≤ 65536 → (f i left).2.2 = 0 → P (f i left).1 ∧ 0 ≤ (f i left).2.1 ∧ (f i left).2.1 ≤ left ∧ weight (f i left).1 = left - (f i left).2.1 + c) :
    ∀ (n : Nat) (i left : Int) (acc : List Tree), 0 ≤ i → i + n ≤ N → 0 ≤ left → left ≤ 65536 → (loopM f n i left acc).2.2 = 0 →
      ∃ ks, (loopM f n i left acc).1 = acc ++ ks ∧ ks.length = n ∧ (∀ k ∈ ks, P k) ∧ 0 ≤ (loopM f n i left acc).2.1 ∧ (loopM f n i left acc).2.1 ≤ left ∧ weightK ks = left - (loopM f n i left acc).2.1 + n * c
  | 0, i, left, acc, _, _, h0, _, _ => ⟨[], by simp [loopM, weightK]; exact h0⟩
  | n + 1, i, left, acc, hi, hn, h0, h9, he => by
    simp only [loopM] at he ⊢
    by_cases h1 : (f i left).2.2 = 0
    · rw [if_pos h1] at he ⊢
      obtain ⟨p1, p2, p4, p3⟩ := hf i left hi (by omega) h0 h9 h1
      obtain ⟨ks, q1, q2, q3, q4, q6, q5⟩ := loopM_all hf n (i + 1) (f i left).2.1 (acc ++ [(f i left).1]) (by omega) (by omega) p2 (by omega) he
      refine ⟨(f i left).1 :: ks, by rw [q1]; simp, by simp [q2], ?_, q4, by omega, ?_⟩
      · intro k hk
        rcases List.mem_cons.1 hk with rfl | hk
        · exact p1
        · exact q3 k hk
      · rw [weightK, q5, p3]
        rw [Int.natCast_add, Int.add_mul]
        omega
    · rw [if_neg h1] at he
      exact absurd he h1

theorem rightK_of {i : Int} {d : Int} : ∀ {ks : List Tree}, (∀ k ∈ ks, kidB i k = true ∧ rightT k d = true) → rightK i ks d = true
  | [], _ => by rw [rightK]
  | t :: r, h => by
    rw [rightK, (h t (List.mem_cons_self ..)).1, (h t (List.mem_cons_self ..)).2, rightK_of (ks := r) fun k hk => h k (List.mem_cons_of_mem _ hk)]
    rfl

theorem rngK_of : ∀ {ks : List Tree}, (∀ k ∈ ks, rng k) → rngK ks
  | [], _ => trivial
  | t :: r, h => ⟨h t (List.mem_cons_self ..), rngK_of (ks := r) fun k hk => h k (List.mem_cons_of_mem _ hk)⟩

def GoodM (l : List (List Int)) (m : XRef → Int → Tree × Int × Int) (d : Int) : Prop :=
  ∀ x left, OkX l x → 0 ≤ left → left ≤ 65536 → (m x left).2.2 = 0 →
    (m x left).1.kind = x.kind ∧ rightT (m x left).1 d = true ∧ rng (m x left).1 ∧ 0 ≤ (m x left).2.1 ∧ weight (m x left).1 = left - (m x left).2.1

theorem kidX_kind {l : List (List Int)} (hl : okSeg l) (s a : Int) : (refAt l s a).1.kind ≠ 10 := by
  have hp := (okL_follow hl s a).p
  have hk := (okL_follow hl s a).kind
  have hc := hp.code
  unfold refAt
  split
  · simp [xz]
  · split
    · simp
    · split
      · show 2 + _ ≠ _; omega
      · unfold compX
        split <;> simp [xz]

theorem kidB_at {l : List (List Int)} (hl : okSeg l) {x : XRef} {i k : Int} (hk : x.kind = 1 ∨ x.kind = 8) (h1 : ¬(2 ≤ k ∧ k ≤ 7)) (h9 : k ≠ 9) {t : Tree} (ht : t.kind = (kidX l x i).1.kind) : kidB k t = true := by
  unfold kidB
  rw [if_neg h1, if_neg h9]
  refine decide_eq_true ?_
  rw [ht]
  unfold kidX
  split
  · simp [xz]
  · rcases hk with e | e
    · rw [if_pos e]; exact kidX_kind hl _ _
    · rw [if_neg (by omega), if_pos e]; exact kidX_kind hl _ _

theorem kidsM_good {l : List (List Int)} (hl : okSeg l) {m : XRef → Int → Tree × Int × Int} {d : Int} (hd : 0 ≤ d) (hm : GoodM l m d) {x : XRef} (hx : OkX l x) (h1 : x.kind = 1) (left : Int) (h0 : 0 ≤ left) (h9 : left ≤ 65536) (he : (kidsM l m x left).2.2 = 0) :
    (kidsM l m x left).1.kind = 1 ∧ rightT (kidsM l m x left).1 (d + 1) = true ∧ rng (kidsM l m x left).1 ∧ 0 ≤ (kidsM l m x left).2.1 ∧ (kidsM l m x left).2.1 ≤ left ∧ weight (kidsM l m x left).1 = left - (kidsM l m x left).2.1 + (1 + x.data + x.ptrs) := by
  have hw := wordsX_rng hl hx
  rw [if_neg (by omega), if_pos h1] at hw
  have hdt := hx.data
  have hpt := hx.ptrs
  unfold kidsM at he ⊢
  obtain ⟨ks, q1, q2, q3, q4, q6, q5⟩ := loopM_all (P := fun k => (kidB 1 k = true ∧ rightT k d = true) ∧ rng k) (N := x.ptrs) (c := 0) (f := fun j left => if (kidX l x j).2 = 0 then m (kidX l x j).1 left else (Tree.nil, left, (kidX l x j).2)) (by
    intro i left hi hn h0 h9 he
    by_cases h2 : (kidX l x i).2 = 0
    · simp only [h2, if_true] at he ⊢
      obtain ⟨g1, g2, g3, g4, g5⟩ := hm _ _ (okX_kid hl hx i) h0 h9 he
      have := (weight_range (m (kidX l x i).1 left).1).1
      exact ⟨⟨⟨kidB_at hl (.inl h1) (by omega) (by omega) g1, g2⟩, g3⟩, g4, by omega, by rw [g5, Int.add_zero]⟩
    · simp only [h2, if_false] at he) x.ptrs.toNat 0 left [] (by omega) (by omega) h0 h9 he
  dsimp only at q1 q4 q5 q6 ⊢
  rw [q1, List.nil_append]
  refine ⟨rfl, ?_, ?_, q4, q6, ?_⟩
  · rw [rightT, if_neg (by omega), if_neg (by omega), if_neg (by omega), if_pos rfl, show d + 1 - 1 = d by omega, rightK_of fun k hk => (q3 k hk).1]
    refine (Bool.and_eq_true _ _).symm ▸ ⟨decide_eq_true ⟨by omega, by omega⟩, rfl⟩
  · exact ⟨⟨by omega, by omega⟩, hw.1, rngK_of fun k hk => (q3 k hk).2⟩
  · rw [weight, if_neg (by omega), if_pos rfl, q5]
    omega

theorem stepM_good {l : List (List Int)} (hl : okSeg l) {d : Nat} {m m' : XRef → Int → Tree × Int × Int} (hm : 1 ≤ d → GoodM l m ((d : Int) - 1)) (hm' : 2 ≤ d → GoodM l m' ((d : Int) - 2)) : GoodM l (stepM l d m m') d := by
  intro x left hx h0 h9 he
  have hw := wordsX_rng hl hx
  have hdt := hx.data
  have hpt := hx.ptrs
  have hk := hx.kind
  have hc := hx.count
  unfold stepM at he ⊢
  by_cases hk0 : x.kind = 0
  · rw [if_neg (by omega), if_neg (by omega)] at hw
    have e : wordsX l x = [] := List.length_eq_zero_iff.1 (by omega)
    rw [if_pos hk0, e]
    refine ⟨hk0.symm, ?_, ?_, h0, ?_⟩
    · rw [rightT, if_pos rfl]; rfl
    · exact ⟨⟨by omega, by omega⟩, fun y hy => (by cases hy), trivial⟩
    · show weight ⟨0, [], []⟩ = left - left
      rw [weight, if_pos rfl]; omega
  · rw [if_neg hk0] at he ⊢
    by_cases hq : d = 0 ∨ (x.kind = 9 ∧ 0 < x.count ∧ d < 2) ∨ left < ownX x
    · rw [if_pos hq] at he; cases he
    · rw [if_neg hq] at he ⊢
      have hown := ownX_pos hx
      have hkx := kidsX_le hx
      -- the kids
      have key : ∃ c : Int, ownX x = 1 + (if x.kind = 1 then x.data + kidsX x else if x.kind = 8 then kidsX x else 0) + kidsX x * c ∧
          ∀ i left, 0 ≤ i → i < kidsX x → 0 ≤ left → left ≤ 65536 → (kidM l m m' x i left).2.2 = 0 →
            ((kidB x.kind (kidM l m m' x i left).1 = true ∧ rightT (kidM l m m' x i left).1 ((d : Int) - 1) = true) ∧ rng (kidM l m m' x i left).1) ∧ 0 ≤ (kidM l m m' x i left).2.1 ∧ (kidM l m m' x i left).2.1 ≤ left ∧
            weight (kidM l m m' x i left).1 = left - (kidM l m m' x i left).2.1 + c := by
        by_cases h18 : x.kind = 1 ∨ x.kind = 8
        · refine ⟨0, ?_, ?_⟩
          · unfold ownX kidsX
            rcases h18 with e | e
            · rw [if_pos e, if_pos e, if_pos e]; omega
            · rw [if_neg (by omega), if_neg (by omega), if_neg (by omega), if_pos e, if_neg (by omega)]; omega
          · intro i left hi hn h0 h9 he
            unfold kidM at he ⊢
            by_cases h2 : (kidX l x i).2 = 0
            · rw [if_pos h2, if_neg (by omega), if_pos h18] at he ⊢
              obtain ⟨g1, g2, g3, g4, g5⟩ := hm (by omega) _ _ (okX_kid hl hx i) h0 h9 he
              have := (weight_range (m (kidX l x i).1 left).1).1
              exact ⟨⟨⟨kidB_at hl h18 (by omega) (by omega) g1, g2⟩, g3⟩, g4, by omega, by rw [g5, Int.add_zero]⟩
            · rw [if_neg h2] at he; exact absurd he h2
        · by_cases h99 : x.kind = 9
          · refine ⟨1 + x.data + x.ptrs, ?_, ?_⟩
            · unfold ownX kidsX
              rw [if_neg (by omega), if_pos h99, if_neg (by omega), if_neg (by omega), if_neg (by omega)]; omega
            · intro i left hi hn h0 h9 he
              have e : kidsX x = x.count := by unfold kidsX; rw [if_neg (by omega)]
              have ek : kidX l x i = (⟨1, x.s, x.at_ + i * (x.data + x.ptrs), x.data, x.ptrs, 0, 0⟩, 0) := by
                unfold kidX; rw [if_neg (by omega), if_neg (by omega), if_neg (by omega), if_pos h99]
              have hkk := okX_kid hl hx i
              unfold kidM at he ⊢
              rw [ek] at he hkk ⊢
              rw [if_pos rfl, if_pos h99] at he ⊢
              obtain ⟨g1, g2, g3, g4, g6, g5⟩ := kidsM_good hl (d := (d : Int) - 2) (by omega) (hm' (by omega)) hkk rfl left h0 h9 he
              refine ⟨⟨⟨?_, by rw [show (d : Int) - 1 = d - 2 + 1 by omega]; exact g2⟩, g3⟩, g4, g6, g5⟩
              unfold kidB
              rw [if_neg (by omega), if_pos h99]
              exact decide_eq_true g1
          · refine ⟨1, ?_, ?_⟩
            · unfold ownX kidsX
              rw [if_neg (by omega), if_neg h99, if_neg (by omega), if_neg (by omega), if_neg (by omega)]; omega
            · intro i left hi hn h0 h9 he
              have e : kidsX x = x.count := by unfold kidsX; rw [if_neg (by omega)]
              have hz := hx.zero
              have ek : kidX l x i = (⟨10, 0, 0, 0, 0, 0, getW ((segAt l x.s).drop x.at_.toNat) (x.kind - 2) i⟩, 0) := by
                unfold kidX; rw [if_neg (by omega), if_neg (by omega), if_neg (by omega), if_neg (by omega)]
              have hkk := okX_kid hl hx i
              rw [ek] at hkk
              have em : kidM l m m' x i left = (⟨10, [getW ((segAt l x.s).drop x.at_.toNat) (x.kind - 2) i], []⟩, left, 0) := by
                unfold kidM
                rw [ek, if_pos rfl, if_neg h99, if_neg h18]
                rfl
              rw [em]
              refine ⟨⟨⟨?_, ?_⟩, ⟨by omega, by omega⟩, ?_, trivial⟩, h0, Int.le_refl _, ?_⟩
              · unfold kidB
                rw [if_pos (by omega)]
                refine (Bool.and_eq_true _ _).symm ▸ ⟨decide_eq_true ⟨rfl, rfl, rfl⟩, ?_⟩
                exact getW_fits (fun y hy => (okSeg_at hl x.s).2 y (List.mem_of_mem_drop hy)) _ _ (by omega)
              · rw [rightT, if_neg (by omega), if_pos rfl]; rfl
              · exact (wordsX_rng hl hkk).1
              · show weight ⟨10, _, []⟩ = left - left + 1
                rw [weight, if_neg (by omega), if_neg (by omega), if_neg (by omega), weightK]; omega
      obtain ⟨c, hc1, hc2⟩ := key
      obtain ⟨ks, q1, q2, q3, q4, q6, q5⟩ := loopM_all (P := fun k => (kidB x.kind k = true ∧ rightT k ((d : Int) - 1) = true) ∧ rng k) (N := kidsX x) hc2 (kidsX x).toNat 0 (left - ownX x) [] (by omega) (by omega) (by omega) (by omega) he
      dsimp only
      rw [q1, List.nil_append]
      rw [Int.toNat_of_nonneg hkx.1] at q5
      have q2' : (ks.length : Int) = kidsX x := by rw [q2, Int.toNat_of_nonneg hkx.1]
      refine ⟨rfl, ?_, ⟨⟨by omega, by omega⟩, hw.1, rngK_of fun k hk => (q3 k hk).2⟩, q4, ?_⟩
      · rw [rightT, if_neg hk0]
        split
        · rename_i h10
          rw [if_pos h10] at hw
          have := hx.zero (.inr h10)
          have e : kidsX x = 0 := by unfold kidsX; rw [if_neg (by omega)]; exact this
          exact decide_eq_true ⟨by omega, by omega⟩
        · rename_i h10
          rw [if_neg h10] at hw
          rw [if_neg (by omega)]
          have hr := rightK_of fun k hk => (q3 k hk).1
          split
          · rename_i h1
            rw [if_pos h1] at hw
            rw [h1] at hr
            rw [hr]
            have e : kidsX x = x.ptrs := by unfold kidsX; rw [if_pos h1]
            exact (Bool.and_eq_true _ _).symm ▸ ⟨decide_eq_true ⟨by omega, by omega⟩, rfl⟩
          · rename_i h1
            rw [if_neg h1] at hw
            rw [hr]
            exact (Bool.and_eq_true _ _).symm ▸ ⟨decide_eq_true ⟨by omega, by omega, by omega, by omega⟩, rfl⟩
      · rw [weight, if_neg hk0, q5, q2', hc1]
        split
        · rename_i h1
          rw [if_neg (by omega), if_pos h1] at hw
          omega
        · omega

theorem mean_good {l : List (List Int)} (hl : okSeg l) : ∀ d : Nat, GoodM l (mean l d) d := by
  intro d
  induction d using Nat.strongRecOn with
  | ind d ih =>
    match d with
    | 0 => exact stepM_good hl (fun h => absurd h (by decide)) (fun h => absurd h (by decide))
    | 1 => exact stepM_good hl (fun _ => ih 0 (by omega)) (fun h => absurd h (by decide))
    | d + 2 =>
      refine stepM_good hl (fun _ => ?_) (fun _ => ?_)
      · have := ih (d + 1) (by omega)
        rw [show ((d + 2 : Nat) : Int) - 1 = ((d + 1 : Nat) : Int) by omega]
        exact this
      · have := ih d (by omega)
        rw [show ((d + 2 : Nat) : Int) - 2 = ((d : Nat) : Int) by omega]
        exact this

end Go.AM.Ythokdjgpdonhgaa

namespace Go.AM.Ythokdjgpdonhgaa
open Go.AM Go.Proofs

theorem loopM_next (f : Int → Int → Tree × Int × Int) {n : Int} {i left : Int} (acc : List Tree) (hi : i < n) : loopM f (n - i).toNat i left acc = if (f i left).2.2 = 0 then loopM f (n - (i + 1)).toNat (i + 1) (f i left).2.1 (acc ++ [(f i left).1]) else (acc, (f i left).2) := by
  rw [show (n - i).toNat = (n - (i + 1)).toNat + 1 by omega]
  rfl

theorem b109 : HB109 := by
  intro N l x d left _ hp hN
  obtain ⟨hl, hx, hd, h0, h1, hd0, hk⟩ := hp
  dsimp only at hl hx hd h0 h1 hd0 hk
  have hN' : 2 * d.toNat + 2 < N + 1 := hN
  have hpt := hx.ptrs
  have hr : ∀ {acc : List Tree} {w e : Int}, loopM (fun j left => if (kidX l x j).2 = 0 then mean l d.toNat (kidX l x j).1 left else (Tree.nil, left, (kidX l x j).2)) x.ptrs.toNat 0 left [] = (acc, w, e) → ∀ {s : LSt U},
      EndsQ cfg Try.f109.ntmps Try.f109.results.toList (.tup [(true, enc .tree ⟨1, wordsX l x, acc⟩), (false, [.int .i64 w]), (false, [.int .i64 e])]) [] .ret s → EndsQ cfg Try.f109.ntmps Try.f109.results.toList (res109 (l, x, d, left, ())) [] .ret s := by
    intro acc w e he s hs
    refine ends_eq ?_ hs
    simp only [res109, kidsM]
    rw [he]
    rfl
  refine vc109 _ _ _ _ _ _ ?_
  refine ⟨⟨hl, hx⟩, ?_⟩
  refine loop_rule (ι := Int × Int × List Tree) (fun p => head109_0 l x d left p.1 p.2.1 p.2.2)
    (fun p => 0 ≤ p.1 ∧ p.1 ≤ left ∧ 0 ≤ p.2.1 ∧ p.2.1 ≤ x.ptrs ∧ p.2.2.length = p.2.1 ∧ loopM (fun j left => if (kidX l x j).2 = 0 then mean l d.toNat (kidX l x j).1 left else (Tree.nil, left, (kidX l x j).2)) (x.ptrs - p.2.1).toNat p.2.1 p.1 p.2.2 = loopM (fun j left => if (kidX l x j).2 = 0 then mean l d.toNat (kidX l x j).1 left else (Tree.nil, left, (kidX l x j).2)) x.ptrs.toNat 0 left [])
    (fun p => (x.ptrs - p.2.1).toNat) (left, 0, []) rfl ⟨h0, Int.le_refl _, by dsimp only; omega, hpt.1, rfl, by dsimp only; rw [Int.sub_zero]⟩ ?_
  rintro ⟨w, i, acc⟩ ⟨w0, w1, i0, i1, ha, hL⟩
  dsimp only at w0 w1 i0 i1 ha hL
  refine vc109_l0 _ _ _ _ _ _ _ _ _ _ ?_
  rintro y1 hy1 y2 hy2 y3 hy3
  replace hy1 := hy1.symm
  subst hy1
  (simp only [vcT, bif_tl, bif_fr, bif_tlf, bif_frf, Bool.not_eq_true', Bool.not_eq_false', decide_eq_true_eq, decide_eq_false_iff_not, beq_iff_eq, beq_eq_false_iff_ne, bne_iff_ne, ne_eq, bne_eq_false_iff_eq, Bool.or_eq_true, Bool.and_eq_true, Bool.or_eq_false_iff, Bool.and_eq_false_imp])
  have hkx := okX_kid hl hx i
  refine ⟨fun hi => ⟨⟨hl, hx⟩, fun he => ?_, fun he => ⟨?_, ?_, fun hn => ?_, fun hn => ⟨by simp; omega, by ((unfold InR; omega)), ?_⟩⟩⟩, fun hi => ?_⟩
  · rw [loopM_next _ _ hi] at hL
    simp only [he, if_false] at hL
    exact hr hL.symm (by (repeat' (first | exact trivial | exact rfl | refine And.intro ?_ ?_)))
  · rw [hy2]; exact ⟨hl, hkx, hd, w0, by dsimp only; omega⟩
  · show 2 * d.toNat + 1 < N
    omega
  · rw [loopM_next _ _ hi] at hL
    simp only [he, if_true, ← hy2, if_neg hn] at hL
    exact hr (acc := acc) (w := (mean l d.toNat y2 w).2.1) (e := (mean l d.toNat y2 w).2.2) hL.symm (by (repeat' (first | exact trivial | exact rfl | refine And.intro ?_ ?_)))
  · rw [loopM_next _ _ hi] at hL
    simp only [he, if_true, ← hy2, if_pos hn, ← hy3] at hL
    have hf := mean_fine hl d.toNat y2 w (by rw [hy2]; exact hkx) w0
    exact ⟨((mean l d.toNat y2 w).2.1, i + 1, acc ++ [y3]), rfl, ⟨hf.1, Int.le_trans hf.2 w1, by dsimp only; omega, by dsimp only; omega, by simp; omega, hL⟩, by dsimp only; omega⟩
  · rw [show (x.ptrs - i).toNat = 0 by omega] at hL
    exact hr hL.symm (by (repeat' (first | exact trivial | exact rfl | refine And.intro ?_ ?_)))

theorem b78 : HB78 := by
  intro N l x d left _ hp hN
  obtain ⟨hl, hx, hd, h0, h1⟩ := hp
  dsimp only at hl hx hd h0 h1
  have hN' : 2 * d.toNat + 1 < N + 1 := hN
  have hkl := kidsX_le hx
  have hop := ownX_pos hx
  have hdt := hx.data
  have hpt := hx.ptrs
  have hct := hx.count
  have hr : ∀ {T : Tree} {w e : Int}, mean l d.toNat x left = (T, w, e) → ∀ {s : LSt U},
      EndsQ cfg Try.f78.ntmps Try.f78.results.toList (.tup [(true, enc .tree T), (false, [.int .i64 w]), (false, [.int .i64 e])]) [] .ret s → EndsQ cfg Try.f78.ntmps Try.f78.results.toList (res78 (l, x, d, left, ())) [] .ret s := by
    intro T w e he s hs
    refine ends_eq ?_ hs
    simp only [res78]
    rw [he]
    rfl
  have cut1 : ¬x.kind = 0 → (1 ≤ d ∧ (x.kind = 9 → 0 < x.count → 2 ≤ d)) → A78 N [1, 1, 1, 1, 1, 1, 1] (head78_1 l x d left (ownX x)) (EndsQ cfg Try.f78.ntmps Try.f78.results.toList (res78 (l, x, d, left, ())) []) := by
    intro hk0 hdd
    have hD : 1 ≤ d.toNat := by omega
    refine vc78_c1 _ _ _ _ _ _ _ ?_
    (simp only [vcT, bif_tl, bif_fr, bif_tlf, bif_frf, Bool.not_eq_true', Bool.not_eq_false', decide_eq_true_eq, decide_eq_false_iff_not, beq_iff_eq, beq_eq_false_iff_ne, bne_iff_ne, ne_eq, bne_eq_false_iff_eq, Bool.or_eq_true, Bool.and_eq_true, Bool.or_eq_false_iff, Bool.and_eq_false_imp])
    refine ⟨fun h => ?_, fun h => ⟨by ((unfold InR; omega)), ?_⟩⟩
    · refine hr (T := ⟨x.kind, wordsX l x, []⟩) (w := left) (e := 3) ?_ (by (repeat' (first | exact trivial | exact rfl | refine And.intro ?_ ?_)))
      rw [mean_eq hD]
      unfold stepM
      rw [if_neg hk0, if_pos (.inr (.inr h))]
    have hM : mean l d.toNat x left = (⟨x.kind, wordsX l x, (loopM (kidM l (mean l (d.toNat - 1)) (mean l (d.toNat - 2)) x) (kidsX x).toNat 0 (left - ownX x) []).1⟩, (loopM (kidM l (mean l (d.toNat - 1)) (mean l (d.toNat - 2)) x) (kidsX x).toNat 0 (left - ownX x) []).2) := by
      rw [mean_eq hD]
      unfold stepM
      rw [if_neg hk0, if_neg]
      rintro (q | q | q)
      · omega
      · have := hdd.2 q.1 q.2.1
        have := q.2.2
        omega
      · omega
    have hr2 : ∀ {acc : List Tree} {w e : Int}, loopM (kidM l (mean l (d.toNat - 1)) (mean l (d.toNat - 2)) x) (kidsX x).toNat 0 (left - ownX x) [] = (acc, w, e) → ∀ {s : LSt U},
        EndsQ cfg Try.f78.ntmps Try.f78.results.toList (.tup [(true, enc .tree ⟨x.kind, wordsX l x, acc⟩), (false, [.int .i64 w]), (false, [.int .i64 e])]) [] .ret s → EndsQ cfg Try.f78.ntmps Try.f78.results.toList (res78 (l, x, d, left, ())) [] .ret s := by
      intro acc w e he s hs
      refine hr (T := ⟨x.kind, wordsX l x, acc⟩) (w := w) (e := e) ?_ hs
      rw [hM, he]
    refine loop_rule (ι := Int × Int × List Tree) (fun p => head78_2 l x d left p.1 p.2.1 p.2.2)
      (fun p => 0 ≤ p.1 ∧ p.1 ≤ left ∧ 0 ≤ p.2.1 ∧ p.2.1 ≤ kidsX x ∧ p.2.2.length = p.2.1 ∧ loopM (kidM l (mean l (d.toNat - 1)) (mean l (d.toNat - 2)) x) (kidsX x - p.2.1).toNat p.2.1 p.1 p.2.2 = loopM (kidM l (mean l (d.toNat - 1)) (mean l (d.toNat - 2)) x) (kidsX x).toNat 0 (left - ownX x) [])
      (fun p => (kidsX x - p.2.1).toNat) (left - ownX x, 0, []) rfl ⟨by dsimp only; omega, by dsimp only; omega, by dsimp only; omega, hkl.1, rfl, by dsimp only; rw [Int.sub_zero]⟩ ?_
    rintro ⟨w, i, acc⟩ ⟨w0, w1, i0, i1, ha, hL⟩
    dsimp only at w0 w1 i0 i1 ha hL
    have hkx := okX_kid hl hx i
    refine vc78_l2 _ _ _ _ _ _ _ _ _ _ ?_
    rintro y1 hy1 y2 hy2
    replace hy1 := hy1.symm
    subst hy1
    (simp only [vcT, bif_tl, bif_fr, bif_tlf, bif_frf, Bool.not_eq_true', Bool.not_eq_false', decide_eq_true_eq, decide_eq_false_iff_not, beq_iff_eq, beq_eq_false_iff_ne, bne_iff_ne, ne_eq, bne_eq_false_iff_eq, Bool.or_eq_true, Bool.and_eq_true, Bool.or_eq_false_iff, Bool.and_eq_false_imp])
    have hk29 : kidsX x < 536870912 := by unfold kidsX; split <;> omega
    have key : ∀ (r : Tree × Int × Int) (v : V U), i < kidsX x → kidM l (mean l (d.toNat - 1)) (mean l (d.toNat - 2)) x i w = r → ∀ N2 : LSt U → Prop, (∀ p : Int × Int × List Tree, (0 ≤ p.1 ∧ p.1 ≤ left ∧ 0 ≤ p.2.1 ∧ p.2.1 ≤ kidsX x ∧ p.2.2.length = p.2.1 ∧ loopM (kidM l (mean l (d.toNat - 1)) (mean l (d.toNat - 2)) x) (kidsX x - p.2.1).toNat p.2.1 p.1 p.2.2 = loopM (kidM l (mean l (d.toNat - 1)) (mean l (d.toNat - 2)) x) (kidsX x).toNat 0 (left - ownX x) []) → (kidsX x - p.2.1).toNat < (kidsX x - i).toNat → N2 (head78_2 l x d left p.1 p.2.1 p.2.2)) →
        A78 N [1, 1, 1, 1, 1, 1, 1, 1, 1, 0, 1, 0, 0, 1, 0, 0, 1, 1, 1, 1] (head78_3 l x d left i acc r.2.1 r.2.2 r.1.kind r.1.words r.1.kids v)
          (AExit.inBlock 1 (S78 N [1, 1, 1, 1, 1, 1, 1, 1, 1, 0, 1, 0, 0, 1, 1] (AExit.then N2 (AExit.inBlock 0 (S78 N [1, 1, 1, 1, 1, 1, 1, 1, 1, 1] (EndsQ cfg Try.f78.ntmps Try.f78.results.toList (res78 (l, x, d, left, ())) [])))))) := by
      intro r v hi hf N2 hN2
      refine vc78_c3 _ _ _ _ _ _ _ _ _ _ _ _ _ _ _ ?_
      (simp only [vcT, bif_tl, bif_fr, bif_tlf, bif_frf, Bool.not_eq_true', Bool.not_eq_false', decide_eq_true_eq, decide_eq_false_iff_not, beq_iff_eq, beq_eq_false_iff_ne, bne_iff_ne, ne_eq, bne_eq_false_iff_eq, Bool.or_eq_true, Bool.and_eq_true, Bool.or_eq_false_iff, Bool.and_eq_false_imp])
      rw [loopM_next _ _ hi, hf] at hL
      refine ⟨fun he => ?_, fun he => ⟨by simp; omega, ?_⟩⟩
      · rw [if_neg he] at hL
        exact hr2 (acc := acc) (w := r.2.1) (e := r.2.2) hL.symm (by (repeat' (first | exact trivial | exact rfl | refine And.intro ?_ ?_)))
      · rw [if_pos he] at hL
        have hfi := kidM_fine hl (mean_fine hl (d.toNat - 1)) (mean_fine hl (d.toNat - 2)) hx i w w0
        rw [hf] at hfi
        refine vc78_c4 _ _ _ _ _ _ _ _ _ _ _ _ _ ?_
        refine ⟨by ((unfold InR; omega)), hN2 (r.2.1, i + 1, acc ++ [Tree.mk r.1.kind r.1.words r.1.kids]) ⟨hfi.1, Int.le_trans hfi.2 w1, by dsimp only; omega, by dsimp only; omega, by simp; omega, ?_⟩ (by dsimp only; omega)⟩
        dsimp only
        rw [Tree.eta]
        exact hL
    have hN2 : ∀ p : Int × Int × List Tree, (0 ≤ p.1 ∧ p.1 ≤ left ∧ 0 ≤ p.2.1 ∧ p.2.1 ≤ kidsX x ∧ p.2.2.length = p.2.1 ∧ loopM (kidM l (mean l (d.toNat - 1)) (mean l (d.toNat - 2)) x) (kidsX x - p.2.1).toNat p.2.1 p.1 p.2.2 = loopM (kidM l (mean l (d.toNat - 1)) (mean l (d.toNat - 2)) x) (kidsX x).toNat 0 (left - ownX x) []) → True := fun _ _ => trivial
    refine ⟨trivial, fun hi => ⟨⟨hl, hx⟩, fun he => ?_, fun he => ⟨?_, fun k9 => ⟨by ((unfold InR; omega)), ?_, ?_, ?_⟩, fun k9 => ⟨fun k18 => ⟨by ((unfold InR; omega)), ?_, ?_, ?_⟩, fun k18 => ?_⟩⟩⟩, fun hi => ?_⟩
    · rw [loopM_next _ _ hi] at hL
      rw [show kidM l (mean l (d.toNat - 1)) (mean l (d.toNat - 2)) x i w = (Tree.nil, w, (kidX l x i).2) by unfold kidM; rw [if_neg he]] at hL
      rw [if_neg he] at hL
      exact hr2 hL.symm (by (repeat' (first | exact trivial | exact rfl | refine And.intro ?_ ?_)))
    · rw [hy2]; exact ⟨hl, hkx⟩
    · rw [hy2]
      refine ⟨hl, hkx, by dsimp only; omega, w0, by dsimp only; omega, ?_, ?_⟩
      · have : kidsX x = x.count := by unfold kidsX; rw [if_neg (by omega)]
        have := hdd.2 k9 (by omega)
        show 0 ≤ d - 2
        omega
      · show (kidX l x i).1.kind = 1
        unfold kidX
        rw [if_neg (by omega), if_neg (by omega), if_neg (by omega), if_pos k9]
    · show 2 * (d - 2).toNat + 2 < N
      have : kidsX x = x.count := by unfold kidsX; rw [if_neg (by omega)]
      have := hdd.2 k9 (by omega)
      omega
    · rw [show (d - 2).toNat = d.toNat - 2 by omega, hy2]
      exact key _ _ hi (by unfold kidM; rw [if_pos he, if_pos k9]) _ (fun p h h' => ⟨p, rfl, h, h'⟩)
    · rw [hy2]; exact ⟨hl, hkx, by dsimp only; omega, w0, by dsimp only; omega⟩
    · show 2 * (d - 1).toNat + 1 < N
      omega
    · rw [show (d - 1).toNat = d.toNat - 1 by omega, hy2]
      exact key _ _ hi (by unfold kidM; rw [if_pos he, if_neg k9, if_pos k18]) _ (fun p h h' => ⟨p, rfl, h, h'⟩)
    · rw [hy2, he]
      exact key (⟨(kidX l x i).1.kind, wordsX l (kidX l x i).1, []⟩, w, 0) _ hi (by unfold kidM; rw [if_pos he, if_neg k9, if_neg (by omega)]) _ (fun p h h' => ⟨p, rfl, h, h'⟩)
    · rw [show (kidsX x - i).toNat = 0 by omega] at hL
      exact hr2 (acc := acc) (w := w) (e := 0) hL.symm (by (repeat' (first | exact trivial | exact rfl | refine And.intro ?_ ?_)))
  have cut0 : ∀ n : Int, (x.kind ≠ 9 → n = ownX x) → ¬x.kind = 0 → (1 ≤ d ∧ (x.kind = 9 → 0 < x.count → 2 ≤ d)) → A78 N [1, 1, 1, 1, 1, 1] (head78_0 l x d left n) (EndsQ cfg Try.f78.ntmps Try.f78.results.toList (res78 (l, x, d, left, ())) []) := by
    intro n hn hk0 hdd
    refine vc78_c0 _ _ _ _ _ _ _ ?_
    (simp only [vcT, bif_tl, bif_fr, bif_tlf, bif_frf, Bool.not_eq_true', Bool.not_eq_false', decide_eq_true_eq, decide_eq_false_iff_not, beq_iff_eq, beq_eq_false_iff_ne, bne_iff_ne, ne_eq, bne_eq_false_iff_eq, Bool.or_eq_true, Bool.and_eq_true, Bool.or_eq_false_iff, Bool.and_eq_false_imp])
    have e3 := Int.mul_nonneg hct.1 (show 0 ≤ 1 + x.data + x.ptrs by omega)
    have e4 := Int.mul_le_mul (Int.le_of_lt hct.2) (show 1 + x.data + x.ptrs ≤ 131072 by omega) (by omega) (by decide : (0 : Int) ≤ 536870912)
    refine ⟨fun k9 => ⟨by ((unfold InR; omega)), by ((unfold InR; omega)), by ((unfold InR; omega)), by ((unfold InR; omega)), ?_⟩, fun k9 => ?_⟩
    · rw [show 1 + x.count * (1 + x.data + x.ptrs) = ownX x by unfold ownX; rw [if_neg (by omega), if_pos k9]]
      exact cut1 hk0 hdd
    · rw [hn k9]
      exact cut1 hk0 hdd
  refine vc78 _ _ _ _ _ _ ?_
  rintro y1 hy1
  replace hy1 := hy1.symm
  dsimp only at hy1
  subst hy1
  (simp only [vcT, bif_tl, bif_fr, bif_tlf, bif_frf, Bool.not_eq_true', Bool.not_eq_false', decide_eq_true_eq, decide_eq_false_iff_not, beq_iff_eq, beq_eq_false_iff_ne, bne_iff_ne, ne_eq, bne_eq_false_iff_eq, Bool.or_eq_true, Bool.and_eq_true, Bool.or_eq_false_iff, Bool.and_eq_false_imp])
  refine ⟨⟨hl, hx⟩, fun h => ?_, fun hk0 => ⟨fun a b => ⟨a, b⟩, fun a b => ⟨a, b⟩, fun h => ?_, fun h => ⟨trivial, ?_, fun k1 => ⟨by ((unfold InR; omega)), by ((unfold InR; omega)), ?_⟩, fun k1 => ?_⟩⟩⟩
  · refine hr (T := ⟨0, wordsX l x, []⟩) (w := left) (e := 0) ?_ ?_
    · rw [show x = xz from hx.null h, mean_null]; rfl
    · rw [h]; (repeat' (first | exact trivial | exact rfl | refine And.intro ?_ ?_))
  · refine hr (T := ⟨x.kind, wordsX l x, []⟩) (w := left) (e := 3) ?_ (by (repeat' (first | exact trivial | exact rfl | refine And.intro ?_ ?_)))
    by_cases hD : 1 ≤ d.toNat
    · rw [mean_eq hD]
      unfold stepM
      rw [if_neg hk0, if_pos]
      rcases h with h | h
      · omega
      · exact .inr (.inl ⟨h.1.1, h.1.2, by omega⟩)
    · rw [show d.toNat = 0 by omega, mean_zero, if_neg hk0]
  · have hk29 : kidsX x < 536870912 := by unfold kidsX; split <;> omega
    ((unfold InR; omega))
  · exact cut0 _ (fun _ => by unfold ownX; rw [if_pos k1]) hk0 ⟨by omega, fun a b => by omega⟩
  · exact cut0 _ (fun k9 => by unfold ownX kidsX; rw [if_neg k1, if_neg k9, if_neg k1]) hk0 ⟨by omega, fun a b => by omega⟩

theorem c78_ : Contract Try.prog cfg 78 spec78 ∧ Contract Try.prog cfg 109 spec109 := make78_109 c67 c29 c30 b78 b109
theorem c78 : Contract Try.prog cfg 78 spec78 := c78_.1

end Go.AM.Ythokdjgpdonhgaa

namespace Go.AM.Ythokdjgpdonhgaa
open Go.AM Go.Proofs

theorem c41 : Contract Try.prog cfg 41 spec41 := by
  refine make41 c47 c27 c78 ?_
  intro l x _ hl
  simp only [pre41] at hl
  refine vc41 _ _ _ ?_
  rintro y hy z hz m hm
  dsimp only at hy hz hm
  replace hy := hy.symm
  subst hy
  have hx := okX_at hl 0 0
  have hlv := limV_ok x
  (simp only [vcT, bif_tl, bif_fr, bif_tlf, bif_frf, Bool.not_eq_true', Bool.not_eq_false', decide_eq_true_eq, decide_eq_false_iff_not, beq_iff_eq, beq_eq_false_iff_ne, bne_iff_ne, ne_eq, bne_eq_false_iff_eq, Bool.or_eq_true, Bool.and_eq_true, Bool.or_eq_false_iff, Bool.and_eq_false_imp])
  have hr : ∀ {T : Tree} {w e : Int}, unfV l x = (T, w, e) → ∀ {s : LSt U},
      EndsQ cfg Try.f41.ntmps Try.f41.results.toList (.tup [(true, enc .tree T), (false, [.int .i64 w]), (false, [.int .i64 e])]) [] .ret s → EndsQ cfg Try.f41.ntmps Try.f41.results.toList (res41 (l, x, ())) [] .ret s := by
    intro T w e he s hs
    refine ends_eq ?_ hs
    simp only [res41]
    rw [he]
    rfl
  have hwf := mean_fine hl (limV x).depth.toNat _ (limV x).weight hx hlv.2.2.1
  rw [← hz, ← hm] at hwf
  refine ⟨trivial, hl, fun h => ?_, fun h => ?_⟩
  · exact hr (T := Tree.nil) (w := 0) (e := (refAt l 0 0).2) (by unfold unfV; rw [if_neg h]) (by (repeat' (first | exact trivial | exact rfl | refine And.intro ?_ ?_)))
  · refine ⟨⟨hl, by rw [hz]; exact hx, hlv.2.1, hlv.2.2⟩, fun h2 => ?_, fun h2 => ⟨by have := hwf.1; have := hwf.2; ((unfold InR; omega)), ?_⟩⟩
    · exact hr (T := Tree.nil) (w := 0) (e := m.2.2) (by unfold unfV; rw [if_pos h, ← hz, ← hm, if_neg h2]) (by (repeat' (first | exact trivial | exact rfl | refine And.intro ?_ ?_)))
    · exact hr (T := m.1) (w := (limV x).weight - m.2.1) (e := 0) (by unfold unfV; rw [if_pos h, ← hz, ← hm, if_pos h2]) (by (repeat' (first | exact trivial | exact rfl | refine And.intro ?_ ?_)))

end Go.AM.Ythokdjgpdonhgaa

namespace Go.AM.Ythokdjgpdonhgaa
open Go.AM Go.Proofs


theorem clamp_le (n t : Int) (h : 0 ≤ t) : 0 ≤ clampI n t ∧ clampI n t ≤ t := by unfold clampI; split <;> (try split) <;> omega

end Go.AM.Ythokdjgpdonhgaa

namespace Go.AM

def More (r r' : Tree × Int × Int) (k : Int) : Prop := r.2.2 = 0 → r' = (r.1, r.2.1 + k, 0)
def MoreM (m m' : XRef → Int → Tree × Int × Int) (k : Int) : Prop := ∀ x left, More (m x left) (m' x (left + k)) k

theorem loopM_more {f g : Int → Int → Tree × Int × Int} {k : Int} (h : ∀ i left, More (f i left) (g i (left + k)) k) : ∀ (n : Nat) (i left : Int) (acc : List Tree), (loopM f n i left acc).2.2 = 0 →
    loopM g n i (left + k) acc = ((loopM f n i left acc).1, (loopM f n i left acc).2.1 + k, 0)
  | 0, _, _, _, _ => rfl
  | n + 1, i, left, acc, h0 => by
    simp only [loopM] at h0 ⊢
    by_cases he : (f i left).2.2 = 0
    · rw [if_pos he] at h0 ⊢
      have hg := h i left he
      rw [hg]
      simp only
      rw [if_pos trivial]
      exact loopM_more h n (i + 1) (f i left).2.1 (acc ++ [(f i left).1]) h0
    · rw [if_neg he] at h0
      exact absurd h0 he

theorem kidsM_more {l : List (List Int)} {m m' : XRef → Int → Tree × Int × Int} {k : Int} (h : MoreM m m' k) (x : XRef) (left : Int) : More (kidsM l m x left) (kidsM l m' x (left + k)) k := by
  intro h0
  unfold kidsM at h0 ⊢
  have := loopM_more (f := fun j left => if (kidX l x j).2 = 0 then m (kidX l x j).1 left else (Tree.nil, left, (kidX l x j).2)) (g := fun j left => if (kidX l x j).2 = 0 then m' (kidX l x j).1 left else (Tree.nil, left, (kidX l x j).2)) (k := k) (by
    intro i left hi
    by_cases he : (kidX l x i).2 = 0
    · simp only [he, if_true] at hi ⊢
      exact h _ _ hi
    · simp only [he, if_false] at hi) x.ptrs.toNat 0 left [] h0
  rw [this]

theorem kidM_more {l : List (List Int)} {m m' n n' : XRef → Int → Tree × Int × Int} {k : Int} (h : MoreM m m' k) (h' : MoreM n n' k) (x : XRef) (i left : Int) : More (kidM l m n x i left) (kidM l m' n' x i (left + k)) k := by
  intro h0
  unfold kidM at h0 ⊢
  by_cases he : (kidX l x i).2 = 0
  · rw [if_pos he] at h0 ⊢
    rw [if_pos he]
    by_cases h9 : x.kind = 9
    · rw [if_pos h9] at h0 ⊢
      rw [if_pos h9]
      exact kidsM_more h' _ _ h0
    · rw [if_neg h9] at h0 ⊢
      rw [if_neg h9]
      by_cases h1 : x.kind = 1 ∨ x.kind = 8
      · rw [if_pos h1] at h0 ⊢
        rw [if_pos h1]
        exact h _ _ h0
      · rw [if_neg h1, if_neg h1]
  · rw [if_neg he] at h0
    exact absurd h0 he

theorem stepM_more {l : List (List Int)} {d d' : Nat} (hd : d ≤ d') {m m' n n' : XRef → Int → Tree × Int × Int} {k : Int} (hk : 0 ≤ k) (h : MoreM m m' k) (h' : MoreM n n' k) : MoreM (stepM l d m n) (stepM l d' m' n') k := by
  intro x left h0
  unfold stepM at h0 ⊢
  by_cases h1 : x.kind = 0
  · rw [if_pos h1, if_pos h1]
  · rw [if_neg h1] at h0 ⊢
    rw [if_neg h1]
    by_cases h2 : d = 0 ∨ (x.kind = 9 ∧ 0 < x.count ∧ d < 2) ∨ left < ownX x
    · rw [if_pos h2] at h0; cases h0
    · rw [if_neg h2] at h0 ⊢
      rw [if_neg (show ¬(d' = 0 ∨ (x.kind = 9 ∧ 0 < x.count ∧ d' < 2) ∨ left + k < ownX x) by
        rintro (q | q | q)
        · exact h2 (.inl (by omega))
        · exact h2 (.inr (.inl ⟨q.1, q.2.1, by omega⟩))
        · exact h2 (.inr (.inr (by omega))))]
      have := loopM_more (k := k) (fun i left => kidM_more (l := l) h h' x i left) (kidsX x).toNat 0 (left - ownX x) [] h0
      rw [show left + k - ownX x = left - ownX x + k by omega, this]

theorem none_more {m' : XRef → Int → Tree × Int × Int} {k : Int} : MoreM (fun _ left => (Tree.nil, left, 3)) m' k := fun _ _ h => by cases h

theorem mean_more {l : List (List Int)} {k : Int} (hk : 0 ≤ k) : ∀ (d d' : Nat), d ≤ d' → MoreM (mean l d) (mean l d') k := by
  intro d
  induction d using Nat.strongRecOn with
  | ind d ih =>
    intro d' hd
    match d, d', hd with
    | 0, 0, hd => exact stepM_more hd hk none_more none_more
    | 0, 1, hd => exact stepM_more hd hk none_more none_more
    | 0, d' + 2, hd => exact stepM_more hd hk none_more none_more
    | 1, 1, hd => exact stepM_more hd hk (ih 0 (by omega) 0 (by omega)) none_more
    | 1, d' + 2, hd => exact stepM_more hd hk (ih 0 (by omega) (d' + 1) (by omega)) none_more
    | d + 2, d' + 2, hd => exact stepM_more hd hk (ih (d + 1) (by omega) (d' + 1) (by omega)) (ih d (by omega) d' (by omega))

end Go.AM

namespace Go.AM.Ythokdjgpdonhgaa
open Go.AM

def valX (l : List (List Int)) (x : XRef) : Tree := (mean l 64 x 65536).1
def valT (r : Ref) : Tree := valX (segO r.a) (unX r)
def valE (r : Ref) : Prop := (mean (segO r.a) 64 (unX r) 65536).2.2 = 0

theorem val_of {l : List (List Int)} {d : Nat} {x : XRef} {left : Int} (hd : d ≤ 64) (hl : left ≤ 65536) (h : (mean l d x left).2.2 = 0) : (mean l 64 x 65536).2.2 = 0 ∧ (mean l d x left).1 = valX l x := by
  have := mean_more (l := l) (k := 65536 - left) (by omega) d 64 hd x left h
  rw [show left + (65536 - left) = 65536 by omega] at this
  unfold valX
  rw [this]
  exact ⟨rfl, rfl⟩

theorem loopM_get {f : Int → Int → Tree × Int × Int} {Q : Int → Int → Prop} (hf : ∀ i left, Q i left → (f i left).2.2 = 0 → Q (i + 1) (f i left).2.1) :
    ∀ (n : Nat) (i left : Int) (acc : List Tree), Q i left → (loopM f n i left acc).2.2 = 0 →
      ∃ ks, (loopM f n i left acc).1 = acc ++ ks ∧ ks.length = n ∧ ∀ j : Nat, j < n → ∃ le, Q (i + j) le ∧ (f (i + j) le).2.2 = 0 ∧ ks.getD j Tree.nil = (f (i + j) le).1
  | 0, i, left, acc, _, _ => ⟨[], by simp [loopM]⟩
  | n + 1, i, left, acc, h0, he => by
    simp only [loopM] at he ⊢
    by_cases h1 : (f i left).2.2 = 0
    · rw [if_pos h1] at he ⊢
      obtain ⟨ks, q1, q2, q3⟩ := loopM_get hf n (i + 1) (f i left).2.1 (acc ++ [(f i left).1]) (hf i left h0 h1) he
      refine ⟨(f i left).1 :: ks, by rw [q1]; simp, by simp [q2], ?_⟩
      rintro (_ | j) hj
      · exact ⟨left, by simpa using h0, by simpa using h1, by simp⟩
      · obtain ⟨le, a1, a2, a3⟩ := q3 j (by omega)
        rw [show i + 1 + (j : Int) = i + ((j + 1 : Nat) : Int) by omega] at a1 a2 a3
        exact ⟨le, a1, a2, by rw [List.getD_cons_succ]; exact a3⟩
    · rw [if_neg h1] at he
      exact absurd he h1

theorem valX_zero {l : List (List Int)} {x : XRef} (h : x.kind = 0) : valX l x = ⟨0, wordsX l x, []⟩ ∧ (mean l 64 x 65536).2.2 = 0 := by
  unfold valX
  rw [mean_eq (by omega)]
  unfold stepM
  rw [if_pos h]
  exact ⟨rfl, rfl⟩

theorem val_kids {l : List (List Int)} (hl : okSeg l) {x : XRef} (hx : OkX l x) (h : (mean l 64 x 65536).2.2 = 0) :
    ∃ ks, valX l x = ⟨x.kind, wordsX l x, ks⟩ ∧ (ks.length : Int) = kidsX x ∧ ∀ i : Int, 0 ≤ i → i < kidsX x → (kidX l x i).2 = 0 ∧ (mean l 64 (kidX l x i).1 65536).2.2 = 0 ∧ ks.getD i.toNat Tree.nil = valX l (kidX l x i).1 := by
  have hkx := kidsX_le hx
  by_cases h0 : x.kind = 0
  · refine ⟨[], by rw [(valX_zero h0).1, h0], ?_, ?_⟩
    · have := hx.null h0
      rw [this]; rfl
    · intro i h1 h2
      rw [hx.null h0] at h2
      exact absurd h2 (by show ¬ i < 0; omega)
  have hdt := hx.data
  have hpt := hx.ptrs
  have hcc := hx.count
  have hown := ownX_pos hx
  unfold valX
  rw [mean_eq (by omega)] at h ⊢
  unfold stepM at h ⊢
  rw [if_neg h0] at h ⊢
  by_cases hq : (64 : Nat) = 0 ∨ (x.kind = 9 ∧ 0 < x.count ∧ 64 < 2) ∨ (65536 : Int) < ownX x
  · rw [if_pos hq] at h; cases h
  · rw [if_neg hq] at h ⊢
    obtain ⟨ks, q1, q2, q3⟩ := loopM_get (Q := fun _ left => 0 ≤ left ∧ left ≤ 65536 - ownX x) (f := kidM l (mean l 63) (mean l 62) x) (fun i left hQ he => by
      have hf := kidM_fine hl (mean_fine hl 63) (mean_fine hl 62) hx i left hQ.1
      exact ⟨hf.1, Int.le_trans hf.2 hQ.2⟩) (kidsX x).toNat 0 (65536 - ownX x) [] ⟨by omega, Int.le_refl _⟩ h
    refine ⟨ks, by dsimp only; rw [q1, List.nil_append], by rw [q2, Int.toNat_of_nonneg hkx.1], ?_⟩
    intro i hi hn
    obtain ⟨le, a1, a2, a3⟩ := q3 i.toNat (by omega)
    rw [show (0 : Int) + (i.toNat : Int) = i by omega] at a2 a3
    rw [a3]
    unfold kidM at a2 ⊢
    by_cases hk2 : (kidX l x i).2 = 0
    · rw [if_pos hk2] at a2 ⊢
      refine ⟨hk2, ?_⟩
      by_cases h9 : x.kind = 9
      · rw [if_pos h9] at a2 ⊢
        have hkx' := okX_kid hl hx i
        have e1 : (kidX l x i).1.kind = 1 ∧ (kidX l x i).1.data = x.data ∧ (kidX l x i).1.ptrs = x.ptrs := by
          have e : kidsX x = x.count := by unfold kidsX; rw [if_neg (by omega)]
          unfold kidX
          rw [if_neg (by omega), if_neg (by omega), if_neg (by omega), if_pos h9]
          exact ⟨rfl, rfl, rfl⟩
        generalize (kidX l x i).1 = z at a2 e1 hkx' ⊢
        have hoz : ownX z = 1 + x.data + x.ptrs := by unfold ownX; rw [if_pos e1.1, e1.2.1, e1.2.2]
        have hox : 1 + x.data + x.ptrs < ownX x := by
          have e : kidsX x = x.count := by unfold kidsX; rw [if_neg (by omega)]
          unfold ownX
          rw [if_neg (by omega), if_pos h9]
          have : 1 * (1 + x.data + x.ptrs) ≤ x.count * (1 + x.data + x.ptrs) := Int.mul_le_mul_of_nonneg_right (by omega) (by omega)
          omega
        have key : mean l 63 z (le + ownX z) = kidsM l (mean l 62) z le := by
          rw [mean_eq (by omega)]
          unfold stepM kidsM
          rw [if_neg (show ¬ z.kind = 0 by omega), if_neg (show ¬((63 : Nat) = 0 ∨ (z.kind = 9 ∧ 0 < z.count ∧ (63 : Nat) < 2) ∨ le + ownX z < ownX z) by omega), show le + ownX z - ownX z = le by omega, show kidsX z = z.ptrs by unfold kidsX; rw [if_pos e1.1]]
          have ef : kidM l (mean l 62) (mean l 61) z = fun j left => if (kidX l z j).2 = 0 then mean l 62 (kidX l z j).1 left else (Tree.nil, left, (kidX l z j).2) := by
            funext j left
            unfold kidM
            rw [if_neg (show ¬ z.kind = 9 by omega), if_pos (show z.kind = 1 ∨ z.kind = 8 from .inl e1.1)]
          rw [e1.1, show (63 : Nat) - 1 = 62 from rfl, show (63 : Nat) - 2 = 61 from rfl, ef]
        rw [← key] at a2 ⊢
        exact val_of (by omega) (by omega) a2
      · rw [if_neg h9] at a2 ⊢
        by_cases h18 : x.kind = 1 ∨ x.kind = 8
        · rw [if_pos h18] at a2 ⊢
          exact val_of (by omega) (by omega) a2
        · rw [if_neg h18]
          have e : kidsX x = x.count := by unfold kidsX; rw [if_neg (by omega)]
          have ek : (kidX l x i).1.kind = 10 := by
            unfold kidX
            rw [if_neg (by omega), if_neg (by omega), if_neg (by omega), if_neg (by omega)]
          have hz := okX_kid hl hx i
          generalize (kidX l x i).1 = z at ek hz ⊢
          have h10 := hz.zero (.inr ek)
          have hkz : kidsX z = 0 := by unfold kidsX; rw [if_neg (by omega)]; exact h10
          have ho : ownX z = 1 := by unfold ownX; rw [if_neg (by omega), if_neg (by omega), h10]; rfl
          rw [mean_eq (by omega)]
          unfold stepM
          rw [if_neg (show ¬ z.kind = 0 by omega), if_neg (show ¬((64 : Nat) = 0 ∨ (z.kind = 9 ∧ 0 < z.count ∧ (64 : Nat) < 2) ∨ (65536 : Int) < ownX z) by omega), hkz]
          exact ⟨rfl, rfl⟩
    · rw [if_neg hk2] at a2
      exact absurd a2 hk2

theorem val_lift {a : Option Arena} {x : XRef} (hx : OkX (segO a) x) : valT (liftX a x) = valX (segO a) x ∧ ((mean (segO a) 64 x 65536).2.2 = 0 → valE (liftX a x)) := by
  unfold valT valE
  rw [unX_lift hx]
  by_cases h0 : x.kind = 0
  · have e := hx.null h0
    subst e
    exact ⟨rfl, fun _ => (valX_zero rfl).2⟩
  · rw [a_lift h0]
    exact ⟨rfl, id⟩

theorem val_good {r : Ref} (h : okR r) (he : valE r) : rightT (valT r) 64 = true ∧ rng (valT r) ∧ mass (valT r) ≤ 140000 := by
  obtain ⟨g1, g2, g3, g4, g5⟩ := mean_good h.1 64 (unX r) 65536 h.2 (by omega) (by omega) he
  have hm := mass_weight _ _ g2
  refine ⟨g2, g3, ?_⟩
  show mass (mean (segO r.a) 64 (unX r) 65536).1 ≤ 140000
  split at hm <;> omega

theorem unf_root {l : List (List Int)} {x : Limits} (h : (unfV l x).2.2 = 0) : (refAt l 0 0).2 = 0 ∧ (mean l 64 (refAt l 0 0).1 65536).2.2 = 0 ∧ (unfV l x).1 = valX l (refAt l 0 0).1 := by
  have hd := clamp_le x.depth 64 (by omega)
  have hw := clamp_le x.weight 65536 (by omega)
  rw [show clampI x.depth 64 = (limV x).depth from rfl] at hd
  rw [show clampI x.weight 65536 = (limV x).weight from rfl] at hw
  unfold unfV at h ⊢
  by_cases h1 : (refAt l 0 0).2 = 0
  · rw [if_pos h1] at h ⊢
    by_cases h2 : (mean l (limV x).depth.toNat (refAt l 0 0).1 (limV x).weight).2.2 = 0
    · rw [if_pos h2] at h ⊢
      have := val_of (by omega) hw.2 h2
      exact ⟨h1, this⟩
    · rw [if_neg h2] at h; exact absurd h h2
  · rw [if_neg h1] at h; exact absurd h h1

theorem unf_nil {l : List (List Int)} {x : Limits} (h : (unfV l x).2.2 ≠ 0) : (unfV l x).1 = Tree.nil := by
  unfold unfV at h ⊢
  by_cases h1 : (refAt l 0 0).2 = 0
  · rw [if_pos h1] at h ⊢
    by_cases h2 : (mean l (limV x).depth.toNat (refAt l 0 0).1 (limV x).weight).2.2 = 0
    · rw [if_pos h2] at h; exact absurd rfl h
    · rw [if_neg h2]
  · rw [if_neg h1]

end Go.AM.Ythokdjgpdonhgaa
