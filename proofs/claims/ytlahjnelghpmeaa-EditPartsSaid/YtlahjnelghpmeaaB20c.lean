/- Printed by program: what is known of each function, and the conditions that its code comes to. -/
import Derived.Test.YtlahjnelghpmeaaD20
import Derived.Test.YtlahjnelghpmeaaRB07
set_option linter.unusedSimpArgs false
set_option linter.unusedVariables false
namespace Go.AM.Ytlahjnelghpmeaa
open Go.AM Go.Proofs

def args85 : ArgL (Edit × Int × Int × Unit) := (.cons (aEl .edit) (.cons (aInt .i64) (.cons (aInt .i64) .nil)))
def pre85 (a : Edit × Int × Int × Unit) : Prop := smallE a.1 ∧ 0 ≤ a.2.1 ∧ a.2.1 ≤ 4611686018427387904 ∧ -1 ≤ a.2.2.1 ∧ a.2.2.1 ≤ 4611686018427387904
def mu85 (a : Edit × Int × Int × Unit) : Nat := massE a.1
noncomputable def res85 (a : Edit × Int × Int × Unit) : V U := .c (.int .i64 (leftE a.1 a.2.1 a.2.2.1))
noncomputable def spec85 : Fs U := fs args85 (fun a => [pre85 a]) res85

def args54 : ArgL (Edit × Unit) := (.cons (aEl .edit) .nil)
def pre54 (a : Edit × Unit) : Prop := smallE a.1
noncomputable def res54 (a : Edit × Unit) : V U := .c (.bool (decide (0 ≤ leftE a.1 80 3000)))
noncomputable def spec54 : Fs U := fs args54 (fun a => [pre54 a]) res54

/-! cento/centoref01.Bytes -/
/-! cento/centoref01.Named -/
/-! cento/centoref01.Of -/
/-! cento/centoref01.Mix -/
/-! cento/centoref20.none -/
/-! cento/centoref20.within -/
/-! cento/centoref20.same -/
/-! cento/centoref20.Lengths -/
/-! cento/centoref20.left -/
noncomputable def know85 (N : Nat) : List (FuncId × Fs U) := (85, fs args85 (fun a => [pre85 a, mu85 a < N]) res85) :: [(68, spec68)]
def lv85 : Lives U := fun i => match i with
  | 0 => ([(1, []), (2, []), (3, [])], [((.loc 3), [])])
  | 1 => ([(1, []), (2, []), (3, [])], [((.loc 3), [])])
  | 2 => ([(1, []), (2, []), (3, []), (25, [])], [((.loc 3), [])])
  | 3 => ([(6, [])], [])
  | 4 => ([(1, []), (2, []), (3, [])], [((.loc 3), [])])
  | 5 => ([(1, []), (2, []), (3, []), (31, [])], [((.loc 3), [])])
  | 6 => ([(1, []), (2, []), (3, []), (31, [])], [((.loc 3), [])])
  | 7 => ([(1, []), (2, []), (3, []), (7, [])], [((.loc 3), [])])
  | 8 => ([(1, []), (2, []), (3, []), (7, []), (44, [])], [((.loc 3), [])])
  | 9 => ([(1, []), (2, []), (3, []), (7, [])], [((.loc 3), [])])
  | 10 => ([(1, []), (2, []), (3, []), (7, [])], [((.loc 3), [])])
  | 11 => ([(1, []), (2, []), (3, []), (8, [])], [((.loc 3), [])])
  | 12 => ([(1, []), (2, []), (3, []), (8, []), (65, [])], [((.loc 3), [])])
  | 13 => ([(1, []), (2, []), (3, []), (8, [])], [((.loc 3), [])])
  | 14 => ([(1, []), (2, []), (3, []), (8, []), (9, [])], [((.loc 3), [])])
  | 15 => ([(1, []), (2, []), (3, []), (8, []), (9, []), (80, [])], [((.loc 3), [])])
  | 16 => ([(1, []), (2, []), (3, []), (8, []), (9, [])], [((.loc 3), [])])
  | 17 => ([(1, []), (2, []), (3, []), (8, []), (9, [])], [((.loc 3), [])])
  | 18 => ([(1, []), (2, []), (3, []), (8, []), (95, [])], [((.loc 3), [])])
  | 19 => ([(1, []), (2, []), (3, []), (8, [])], [((.loc 3), [])])
  | 20 => ([(6, [])], [])
  | _ => ([], [])
def head85_0 (e : Edit) (d : Int) (n : Int) (x2 : Int) : LSt U := (⟨[(1, .c (.int .i64 d)), (2, .c (.int .i64 x2)), (3, .ptr (.loc 3) 0), (31, .c (.bool (decide ((0 : Int) ≤ (shallow (Tree.mk (Tree.kind (Edit.old e)) (Tree.words (Edit.old e)) (Tree.kids (Edit.old e))) 80 ((((((n : Int) - 1) : Int) - ((Edit.words e).length : Int)) : Int) - ((Edit.ops e).length : Int)))))))], [((.loc 3), [.int .i64 (Edit.kind e), .int .i64 (Tree.kind (Edit.old e)), .slice (U := U) .u64 (Tree.words (Edit.old e)) .unk, .slice (U := U) .tree (Tree.kids (Edit.old e)) .unk, .int .i64 (Tree.kind (Edit.new e)), .slice (U := U) .u64 (Tree.words (Edit.new e)) .unk, .slice (U := U) .tree (Tree.kids (Edit.new e)) .unk, .slice (U := U) .wedit (Edit.words e) .unk, .slice (U := U) .kid (Edit.kids e) .unk, .int .i64 (Edit.list e), .slice (U := U) .op (Edit.ops e) .unk])], []⟩ : LSt U)
def head85_1 (e : Edit) (d : Int) (n : Int) (x2_a : Int) (x7_a : Int) : LSt U := (⟨[(1, .c (.int .i64 d)), (2, .c (.int .i64 x2_a)), (3, .ptr (.loc 3) 0), (7, .c (.int .i64 x7_a))], [((.loc 3), [.int .i64 (Edit.kind e), .int .i64 (Tree.kind (Edit.old e)), .slice (U := U) .u64 (Tree.words (Edit.old e)) .unk, .slice (U := U) .tree (Tree.kids (Edit.old e)) .unk, .int .i64 (Tree.kind (Edit.new e)), .slice (U := U) .u64 (Tree.words (Edit.new e)) .unk, .slice (U := U) .tree (Tree.kids (Edit.new e)) .unk, .slice (U := U) .wedit (Edit.words e) .unk, .slice (U := U) .kid (Edit.kids e) .unk, .int .i64 (Edit.list e), .slice (U := U) .op (Edit.ops e) .unk])], []⟩ : LSt U)
def head85_2 (e : Edit) (d : Int) (n : Int) (x2_b : Int) (x8_b : Int) : LSt U := (⟨[(1, .c (.int .i64 d)), (2, .c (.int .i64 x2_b)), (3, .ptr (.loc 3) 0), (8, .c (.int .i64 x8_b))], [((.loc 3), [.int .i64 (Edit.kind e), .int .i64 (Tree.kind (Edit.old e)), .slice (U := U) .u64 (Tree.words (Edit.old e)) .unk, .slice (U := U) .tree (Tree.kids (Edit.old e)) .unk, .int .i64 (Tree.kind (Edit.new e)), .slice (U := U) .u64 (Tree.words (Edit.new e)) .unk, .slice (U := U) .tree (Tree.kids (Edit.new e)) .unk, .slice (U := U) .wedit (Edit.words e) .unk, .slice (U := U) .kid (Edit.kids e) .unk, .int .i64 (Edit.list e), .slice (U := U) .op (Edit.ops e) .unk])], []⟩ : LSt U)
def head85_3 (e : Edit) (d : Int) (n : Int) (x8_b : Int) (x2_c : Int) (x9_c : Int) : LSt U := (⟨[(1, .c (.int .i64 d)), (2, .c (.int .i64 x2_c)), (3, .ptr (.loc 3) 0), (8, .c (.int .i64 x8_b)), (9, .c (.int .i64 x9_c))], [((.loc 3), [.int .i64 (Edit.kind e), .int .i64 (Tree.kind (Edit.old e)), .slice (U := U) .u64 (Tree.words (Edit.old e)) .unk, .slice (U := U) .tree (Tree.kids (Edit.old e)) .unk, .int .i64 (Tree.kind (Edit.new e)), .slice (U := U) .u64 (Tree.words (Edit.new e)) .unk, .slice (U := U) .tree (Tree.kids (Edit.new e)) .unk, .slice (U := U) .wedit (Edit.words e) .unk, .slice (U := U) .kid (Edit.kids e) .unk, .int .i64 (Edit.list e), .slice (U := U) .op (Edit.ops e) .unk])], []⟩ : LSt U)
abbrev W85 (N : Nat) (e : Edit) (d : Int) (n : Int) (Q : AExit → LSt U → Prop) : Prop := awp cfg (know (know85 N)) (drawOk cfg (know (know85 N))) Try.f85.ntmps lv85 (cd Try.f85 []) (⟨[(0, .agg [.int .i64 (Edit.kind e), .int .i64 (Tree.kind (Edit.old e)), .slice (U := U) .u64 (Tree.words (Edit.old e)) .unk, .slice (U := U) .tree (Tree.kids (Edit.old e)) .unk, .int .i64 (Tree.kind (Edit.new e)), .slice (U := U) .u64 (Tree.words (Edit.new e)) .unk, .slice (U := U) .tree (Tree.kids (Edit.new e)) .unk, .slice (U := U) .wedit (Edit.words e) .unk, .slice (U := U) .kid (Edit.kids e) .unk, .int .i64 (Edit.list e), .slice (U := U) .op (Edit.ops e) .unk]), (1, .c (.int .i64 d)), (2, .c (.int .i64 n))], [], []⟩ : LSt U) Q
/-- the body -/
theorem vc85 (N : Nat) (e : Edit) (d : Int) (n : Int) (Q : AExit → LSt U → Prop) (h : (InR ((n : Int) - 1)) ∧ (InR ((((n : Int) - 1) : Int) - ((Edit.words e).length : Int))) ∧ (InR ((((((n : Int) - 1) : Int) - ((Edit.words e).length : Int)) : Int) - ((Edit.ops e).length : Int))) ∧ (((bif ((d : Int) == 0) then true else (decide ((((((((n : Int) - 1) : Int) - ((Edit.words e).length : Int)) : Int) - ((Edit.ops e).length : Int)) : Int) < 0))) = true → Q .ret (⟨[(6, .c (.int .i64 (-1)))], [], []⟩ : LSt U)) ∧ ((bif ((d : Int) == 0) then true else (decide ((((((((n : Int) - 1) : Int) - ((Edit.words e).length : Int)) : Int) - ((Edit.ops e).length : Int)) : Int) < 0))) = false → (pre68 ((Tree.mk (Tree.kind (Edit.old e)) (Tree.words (Edit.old e)) (Tree.kids (Edit.old e))), 80, ((((((n : Int) - 1) : Int) - ((Edit.words e).length : Int)) : Int) - ((Edit.ops e).length : Int)), ())) ∧ (((decide ((0 : Int) ≤ (shallow (Tree.mk (Tree.kind (Edit.old e)) (Tree.words (Edit.old e)) (Tree.kids (Edit.old e))) 80 ((((((n : Int) - 1) : Int) - ((Edit.words e).length : Int)) : Int) - ((Edit.ops e).length : Int))))) = true → (pre68 ((Tree.mk (Tree.kind (Edit.new e)) (Tree.words (Edit.new e)) (Tree.kids (Edit.new e))), 80, (shallow (Tree.mk (Tree.kind (Edit.old e)) (Tree.words (Edit.old e)) (Tree.kids (Edit.old e))) 80 ((((((n : Int) - 1) : Int) - ((Edit.words e).length : Int)) : Int) - ((Edit.ops e).length : Int))), ())) ∧ (awp cfg (know (know85 N)) (drawOk cfg (know (know85 N))) Try.f85.ntmps lv85 (cd Try.f85 [1, 1, 1, 1, 1]) (head85_0 e d n (shallow (Tree.mk (Tree.kind (Edit.new e)) (Tree.words (Edit.new e)) (Tree.kids (Edit.new e))) 80 (shallow (Tree.mk (Tree.kind (Edit.old e)) (Tree.words (Edit.old e)) (Tree.kids (Edit.old e))) 80 ((((((n : Int) - 1) : Int) - ((Edit.words e).length : Int)) : Int) - ((Edit.ops e).length : Int))))) Q)) ∧ ((decide ((0 : Int) ≤ (shallow (Tree.mk (Tree.kind (Edit.old e)) (Tree.words (Edit.old e)) (Tree.kids (Edit.old e))) 80 ((((((n : Int) - 1) : Int) - ((Edit.words e).length : Int)) : Int) - ((Edit.ops e).length : Int))))) = false → awp cfg (know (know85 N)) (drawOk cfg (know (know85 N))) Try.f85.ntmps lv85 (cd Try.f85 [1, 1, 1, 1, 1]) (head85_0 e d n (shallow (Tree.mk (Tree.kind (Edit.old e)) (Tree.words (Edit.old e)) (Tree.kids (Edit.old e))) 80 ((((((n : Int) - 1) : Int) - ((Edit.words e).length : Int)) : Int) - ((Edit.ops e).length : Int)))) Q))))) :
    W85 N e d n Q := by
  have e_ : (awp cfg (know (know85 N)) (drawOk cfg (know (know85 N))) Try.f85.ntmps lv85 (cd Try.f85 []) (⟨[(0, .agg [.int .i64 (Edit.kind e), .int .i64 (Tree.kind (Edit.old e)), .slice (U := U) .u64 (Tree.words (Edit.old e)) .unk, .slice (U := U) .tree (Tree.kids (Edit.old e)) .unk, .int .i64 (Tree.kind (Edit.new e)), .slice (U := U) .u64 (Tree.words (Edit.new e)) .unk, .slice (U := U) .tree (Tree.kids (Edit.new e)) .unk, .slice (U := U) .wedit (Edit.words e) .unk, .slice (U := U) .kid (Edit.kids e) .unk, .int .i64 (Edit.list e), .slice (U := U) .op (Edit.ops e) .unk]), (1, .c (.int .i64 d)), (2, .c (.int .i64 n))], [], []⟩ : LSt U) Q) = (((InR ((n : Int) - 1)) ∧ (InR ((((n : Int) - 1) : Int) - ((Edit.words e).length : Int))) ∧ (InR ((((((n : Int) - 1) : Int) - ((Edit.words e).length : Int)) : Int) - ((Edit.ops e).length : Int))) ∧ (((!((d : Int) == 0)) = true → (!((d : Int) == 0)) = true) ∧ ((((d : Int) == 0) = false → (!((d : Int) == 0)) = true)) ∧ (((bif ((d : Int) == 0) then true else (decide ((((((((n : Int) - 1) : Int) - ((Edit.words e).length : Int)) : Int) - ((Edit.ops e).length : Int)) : Int) < 0))) = true → (Q .ret (⟨[(6, .c (.int .i64 (-1)))], [], []⟩ : LSt U))) ∧ ((bif ((d : Int) == 0) then true else (decide ((((((((n : Int) - 1) : Int) - ((Edit.words e).length : Int)) : Int) - ((Edit.ops e).length : Int)) : Int) < 0))) = false → (pre68 ((Tree.mk (Tree.kind (Edit.old e)) (Tree.words (Edit.old e)) (Tree.kids (Edit.old e))), 80, ((((((n : Int) - 1) : Int) - ((Edit.words e).length : Int)) : Int) - ((Edit.ops e).length : Int)), ())) ∧ ((((decide ((0 : Int) ≤ (shallow (Tree.mk (Tree.kind (Edit.old e)) (Tree.words (Edit.old e)) (Tree.kids (Edit.old e))) 80 ((((((n : Int) - 1) : Int) - ((Edit.words e).length : Int)) : Int) - ((Edit.ops e).length : Int))))) = true → (pre68 ((Tree.mk (Tree.kind (Edit.new e)) (Tree.words (Edit.new e)) (Tree.kids (Edit.new e))), 80, (shallow (Tree.mk (Tree.kind (Edit.old e)) (Tree.words (Edit.old e)) (Tree.kids (Edit.old e))) 80 ((((((n : Int) - 1) : Int) - ((Edit.words e).length : Int)) : Int) - ((Edit.ops e).length : Int))), ())) ∧ (awp cfg (know (know85 N)) (drawOk cfg (know (know85 N))) Try.f85.ntmps lv85 (cd Try.f85 [1, 1, 1, 1, 1]) (head85_0 e d n (shallow (Tree.mk (Tree.kind (Edit.new e)) (Tree.words (Edit.new e)) (Tree.kids (Edit.new e))) 80 (shallow (Tree.mk (Tree.kind (Edit.old e)) (Tree.words (Edit.old e)) (Tree.kids (Edit.old e))) 80 ((((((n : Int) - 1) : Int) - ((Edit.words e).length : Int)) : Int) - ((Edit.ops e).length : Int))))) Q)) ∧ ((decide ((0 : Int) ≤ (shallow (Tree.mk (Tree.kind (Edit.old e)) (Tree.words (Edit.old e)) (Tree.kids (Edit.old e))) 80 ((((((n : Int) - 1) : Int) - ((Edit.words e).length : Int)) : Int) - ((Edit.ops e).length : Int))))) = false → awp cfg (know (know85 N)) (drawOk cfg (know (know85 N))) Try.f85.ntmps lv85 (cd Try.f85 [1, 1, 1, 1, 1]) (head85_0 e d n (shallow (Tree.mk (Tree.kind (Edit.old e)) (Tree.words (Edit.old e)) (Tree.kids (Edit.old e))) 80 ((((((n : Int) - 1) : Int) - ((Edit.words e).length : Int)) : Int) - ((Edit.ops e).length : Int)))) Q)))))))) := by kernel_rfl
  exact e_.mpr ⟨h.1, h.2.1, h.2.2.1, ⟨fun x => x, (by generalize ((d : Int) == 0) = b0; revert b0; decide), ⟨fun c_12 => (h.2.2.2.1 c_12), fun c_12 => ⟨(h.2.2.2.2 c_12).1, ⟨fun c_13 => ⟨((h.2.2.2.2 c_12).2.1 c_13).1, ((h.2.2.2.2 c_12).2.1 c_13).2⟩, fun c_13 => ((h.2.2.2.2 c_12).2.2 c_13)⟩⟩⟩⟩⟩
abbrev W85_c0 (N : Nat) (e : Edit) (d : Int) (n : Int) (x2 : Int) (Q : AExit → LSt U → Prop) : Prop := awp cfg (know (know85 N)) (drawOk cfg (know (know85 N))) Try.f85.ntmps lv85 (cd Try.f85 [1, 1, 1, 1, 1]) (head85_0 e d n x2) Q
/-- what follows at [1, 1, 1, 1, 1] -/
theorem vc85_c0 (N : Nat) (e : Edit) (d : Int) (n : Int) (x2 : Int) (Q : AExit → LSt U → Prop) (h : LoopWp (awp cfg (know (know85 N)) (drawOk cfg (know (know85 N))) Try.f85.ntmps lv85 (cd Try.f85 [1, 1, 1, 1, 1, 0, 1, 0, 0])) (head85_1 e d n x2 0) (AExit.inBlock 0 (seqK cfg (know (know85 N)) (drawOk cfg (know (know85 N))) Try.f85.ntmps lv85 (cd Try.f85 [1, 1, 1, 1, 1, 1]) Q))) :
    W85_c0 N e d n x2 Q := by
  have e_ : (awp cfg (know (know85 N)) (drawOk cfg (know (know85 N))) Try.f85.ntmps lv85 (cd Try.f85 [1, 1, 1, 1, 1]) (head85_0 e d n x2) Q) = ((LoopWp (awp cfg (know (know85 N)) (drawOk cfg (know (know85 N))) Try.f85.ntmps lv85 (cd Try.f85 [1, 1, 1, 1, 1, 0, 1, 0, 0])) (head85_1 e d n x2 0) (AExit.inBlock 0 (seqK cfg (know (know85 N)) (drawOk cfg (know (know85 N))) Try.f85.ntmps lv85 (cd Try.f85 [1, 1, 1, 1, 1, 1]) Q)))) := by kernel_rfl
  exact e_.mpr h
abbrev W85_l1 (N : Nat) (e : Edit) (d : Int) (n : Int) (x2_a : Int) (x7_a : Int) (N1 : LSt U → Prop) (Q : AExit → LSt U → Prop) : Prop := awp cfg (know (know85 N)) (drawOk cfg (know (know85 N))) Try.f85.ntmps lv85 (cd Try.f85 [1, 1, 1, 1, 1, 0, 1, 0, 0]) (head85_1 e d n x2_a x7_a) (AExit.then N1 (AExit.inBlock 0 (seqK cfg (know (know85 N)) (drawOk cfg (know (know85 N))) Try.f85.ntmps lv85 (cd Try.f85 [1, 1, 1, 1, 1, 1]) Q)))
/-- the loop at [1, 1, 1, 1, 1, 0, 1, 0] -/
theorem vc85_l1 (N : Nat) (e : Edit) (d : Int) (n : Int) (x2_a : Int) (x7_a : Int) (N1 : LSt U → Prop) (Q : AExit → LSt U → Prop) (h : ((bif (decide ((x7_a : Int) < ((Edit.kids e).length : Int))) then (decide ((0 : Int) ≤ x2_a)) else false) = true → ((0 : Int) ≤ x7_a ∧ x7_a < ((Edit.kids e).length : Int)) ∧ (InR ((d : Int) - 1)) ∧ (pre85 ((Edit.mk (Edit.kind (KidOf.e (List.getD (Edit.kids e) (Int.toNat x7_a) (KidOf.mk 0 Edit.nil)))) (Tree.mk (Tree.kind (Edit.old (KidOf.e (List.getD (Edit.kids e) (Int.toNat x7_a) (KidOf.mk 0 Edit.nil))))) (Tree.words (Edit.old (KidOf.e (List.getD (Edit.kids e) (Int.toNat x7_a) (KidOf.mk 0 Edit.nil))))) (Tree.kids (Edit.old (KidOf.e (List.getD (Edit.kids e) (Int.toNat x7_a) (KidOf.mk 0 Edit.nil)))))) (Tree.mk (Tree.kind (Edit.new (KidOf.e (List.getD (Edit.kids e) (Int.toNat x7_a) (KidOf.mk 0 Edit.nil))))) (Tree.words (Edit.new (KidOf.e (List.getD (Edit.kids e) (Int.toNat x7_a) (KidOf.mk 0 Edit.nil))))) (Tree.kids (Edit.new (KidOf.e (List.getD (Edit.kids e) (Int.toNat x7_a) (KidOf.mk 0 Edit.nil)))))) (Edit.words (KidOf.e (List.getD (Edit.kids e) (Int.toNat x7_a) (KidOf.mk 0 Edit.nil)))) (Edit.kids (KidOf.e (List.getD (Edit.kids e) (Int.toNat x7_a) (KidOf.mk 0 Edit.nil)))) (Edit.list (KidOf.e (List.getD (Edit.kids e) (Int.toNat x7_a) (KidOf.mk 0 Edit.nil)))) (Edit.ops (KidOf.e (List.getD (Edit.kids e) (Int.toNat x7_a) (KidOf.mk 0 Edit.nil))))), ((d : Int) - 1), x2_a, ())) ∧ (mu85 ((Edit.mk (Edit.kind (KidOf.e (List.getD (Edit.kids e) (Int.toNat x7_a) (KidOf.mk 0 Edit.nil)))) (Tree.mk (Tree.kind (Edit.old (KidOf.e (List.getD (Edit.kids e) (Int.toNat x7_a) (KidOf.mk 0 Edit.nil))))) (Tree.words (Edit.old (KidOf.e (List.getD (Edit.kids e) (Int.toNat x7_a) (KidOf.mk 0 Edit.nil))))) (Tree.kids (Edit.old (KidOf.e (List.getD (Edit.kids e) (Int.toNat x7_a) (KidOf.mk 0 Edit.nil)))))) (Tree.mk (Tree.kind (Edit.new (KidOf.e (List.getD (Edit.kids e) (Int.toNat x7_a) (KidOf.mk 0 Edit.nil))))) (Tree.words (Edit.new (KidOf.e (List.getD (Edit.kids e) (Int.toNat x7_a) (KidOf.mk 0 Edit.nil))))) (Tree.kids (Edit.new (KidOf.e (List.getD (Edit.kids e) (Int.toNat x7_a) (KidOf.mk 0 Edit.nil)))))) (Edit.words (KidOf.e (List.getD (Edit.kids e) (Int.toNat x7_a) (KidOf.mk 0 Edit.nil)))) (Edit.kids (KidOf.e (List.getD (Edit.kids e) (Int.toNat x7_a) (KidOf.mk 0 Edit.nil)))) (Edit.list (KidOf.e (List.getD (Edit.kids e) (Int.toNat x7_a) (KidOf.mk 0 Edit.nil)))) (Edit.ops (KidOf.e (List.getD (Edit.kids e) (Int.toNat x7_a) (KidOf.mk 0 Edit.nil))))), ((d : Int) - 1), x2_a, ()) < N) ∧ ((InR ((x7_a : Int) + 1)) ∧ (N1 (head85_1 e d n (leftE (Edit.mk (Edit.kind (KidOf.e (List.getD (Edit.kids e) (Int.toNat x7_a) (KidOf.mk 0 Edit.nil)))) (Tree.mk (Tree.kind (Edit.old (KidOf.e (List.getD (Edit.kids e) (Int.toNat x7_a) (KidOf.mk 0 Edit.nil))))) (Tree.words (Edit.old (KidOf.e (List.getD (Edit.kids e) (Int.toNat x7_a) (KidOf.mk 0 Edit.nil))))) (Tree.kids (Edit.old (KidOf.e (List.getD (Edit.kids e) (Int.toNat x7_a) (KidOf.mk 0 Edit.nil)))))) (Tree.mk (Tree.kind (Edit.new (KidOf.e (List.getD (Edit.kids e) (Int.toNat x7_a) (KidOf.mk 0 Edit.nil))))) (Tree.words (Edit.new (KidOf.e (List.getD (Edit.kids e) (Int.toNat x7_a) (KidOf.mk 0 Edit.nil))))) (Tree.kids (Edit.new (KidOf.e (List.getD (Edit.kids e) (Int.toNat x7_a) (KidOf.mk 0 Edit.nil)))))) (Edit.words (KidOf.e (List.getD (Edit.kids e) (Int.toNat x7_a) (KidOf.mk 0 Edit.nil)))) (Edit.kids (KidOf.e (List.getD (Edit.kids e) (Int.toNat x7_a) (KidOf.mk 0 Edit.nil)))) (Edit.list (KidOf.e (List.getD (Edit.kids e) (Int.toNat x7_a) (KidOf.mk 0 Edit.nil)))) (Edit.ops (KidOf.e (List.getD (Edit.kids e) (Int.toNat x7_a) (KidOf.mk 0 Edit.nil))))) ((d : Int) - 1) x2_a) ((x7_a : Int) + 1))))) ∧ ((bif (decide ((x7_a : Int) < ((Edit.kids e).length : Int))) then (decide ((0 : Int) ≤ x2_a)) else false) = false → LoopWp (awp cfg (know (know85 N)) (drawOk cfg (know (know85 N))) Try.f85.ntmps lv85 (cd Try.f85 [1, 1, 1, 1, 1, 1, 0, 1, 0, 0])) (head85_2 e d n x2_a 0) (AExit.inBlock 2 (seqK cfg (know (know85 N)) (drawOk cfg (know (know85 N))) Try.f85.ntmps lv85 (cd Try.f85 [1, 1, 1, 1, 1, 1, 1]) Q)))) :
    W85_l1 N e d n x2_a x7_a N1 Q := by
  have e_ : (awp cfg (know (know85 N)) (drawOk cfg (know (know85 N))) Try.f85.ntmps lv85 (cd Try.f85 [1, 1, 1, 1, 1, 0, 1, 0, 0]) (head85_1 e d n x2_a x7_a) (AExit.then N1 (AExit.inBlock 0 (seqK cfg (know (know85 N)) (drawOk cfg (know (know85 N))) Try.f85.ntmps lv85 (cd Try.f85 [1, 1, 1, 1, 1, 1]) Q)))) = (((decide ((x7_a : Int) < ((Edit.kids e).length : Int))) = true → (decide ((x7_a : Int) < ((Edit.kids e).length : Int))) = true) ∧ (((decide ((x7_a : Int) < ((Edit.kids e).length : Int))) = true → (decide ((x7_a : Int) < ((Edit.kids e).length : Int))) = true)) ∧ (((bif (decide ((x7_a : Int) < ((Edit.kids e).length : Int))) then (decide ((0 : Int) ≤ x2_a)) else false) = true → ((0 : Int) ≤ x7_a ∧ x7_a < ((Edit.kids e).length : Int)) ∧ (InR ((d : Int) - 1)) ∧ (pre85 ((Edit.mk (Edit.kind (KidOf.e (List.getD (Edit.kids e) (Int.toNat x7_a) (KidOf.mk 0 Edit.nil)))) (Tree.mk (Tree.kind (Edit.old (KidOf.e (List.getD (Edit.kids e) (Int.toNat x7_a) (KidOf.mk 0 Edit.nil))))) (Tree.words (Edit.old (KidOf.e (List.getD (Edit.kids e) (Int.toNat x7_a) (KidOf.mk 0 Edit.nil))))) (Tree.kids (Edit.old (KidOf.e (List.getD (Edit.kids e) (Int.toNat x7_a) (KidOf.mk 0 Edit.nil)))))) (Tree.mk (Tree.kind (Edit.new (KidOf.e (List.getD (Edit.kids e) (Int.toNat x7_a) (KidOf.mk 0 Edit.nil))))) (Tree.words (Edit.new (KidOf.e (List.getD (Edit.kids e) (Int.toNat x7_a) (KidOf.mk 0 Edit.nil))))) (Tree.kids (Edit.new (KidOf.e (List.getD (Edit.kids e) (Int.toNat x7_a) (KidOf.mk 0 Edit.nil)))))) (Edit.words (KidOf.e (List.getD (Edit.kids e) (Int.toNat x7_a) (KidOf.mk 0 Edit.nil)))) (Edit.kids (KidOf.e (List.getD (Edit.kids e) (Int.toNat x7_a) (KidOf.mk 0 Edit.nil)))) (Edit.list (KidOf.e (List.getD (Edit.kids e) (Int.toNat x7_a) (KidOf.mk 0 Edit.nil)))) (Edit.ops (KidOf.e (List.getD (Edit.kids e) (Int.toNat x7_a) (KidOf.mk 0 Edit.nil))))), ((d : Int) - 1), x2_a, ())) ∧ (mu85 ((Edit.mk (Edit.kind (KidOf.e (List.getD (Edit.kids e) (Int.toNat x7_a) (KidOf.mk 0 Edit.nil)))) (Tree.mk (Tree.kind (Edit.old (KidOf.e (List.getD (Edit.kids e) (Int.toNat x7_a) (KidOf.mk 0 Edit.nil))))) (Tree.words (Edit.old (KidOf.e (List.getD (Edit.kids e) (Int.toNat x7_a) (KidOf.mk 0 Edit.nil))))) (Tree.kids (Edit.old (KidOf.e (List.getD (Edit.kids e) (Int.toNat x7_a) (KidOf.mk 0 Edit.nil)))))) (Tree.mk (Tree.kind (Edit.new (KidOf.e (List.getD (Edit.kids e) (Int.toNat x7_a) (KidOf.mk 0 Edit.nil))))) (Tree.words (Edit.new (KidOf.e (List.getD (Edit.kids e) (Int.toNat x7_a) (KidOf.mk 0 Edit.nil))))) (Tree.kids (Edit.new (KidOf.e (List.getD (Edit.kids e) (Int.toNat x7_a) (KidOf.mk 0 Edit.nil)))))) (Edit.words (KidOf.e (List.getD (Edit.kids e) (Int.toNat x7_a) (KidOf.mk 0 Edit.nil)))) (Edit.kids (KidOf.e (List.getD (Edit.kids e) (Int.toNat x7_a) (KidOf.mk 0 Edit.nil)))) (Edit.list (KidOf.e (List.getD (Edit.kids e) (Int.toNat x7_a) (KidOf.mk 0 Edit.nil)))) (Edit.ops (KidOf.e (List.getD (Edit.kids e) (Int.toNat x7_a) (KidOf.mk 0 Edit.nil))))), ((d : Int) - 1), x2_a, ()) < N) ∧ ((InR ((x7_a : Int) + 1)) ∧ (N1 (head85_1 e d n (leftE (Edit.mk (Edit.kind (KidOf.e (List.getD (Edit.kids e) (Int.toNat x7_a) (KidOf.mk 0 Edit.nil)))) (Tree.mk (Tree.kind (Edit.old (KidOf.e (List.getD (Edit.kids e) (Int.toNat x7_a) (KidOf.mk 0 Edit.nil))))) (Tree.words (Edit.old (KidOf.e (List.getD (Edit.kids e) (Int.toNat x7_a) (KidOf.mk 0 Edit.nil))))) (Tree.kids (Edit.old (KidOf.e (List.getD (Edit.kids e) (Int.toNat x7_a) (KidOf.mk 0 Edit.nil)))))) (Tree.mk (Tree.kind (Edit.new (KidOf.e (List.getD (Edit.kids e) (Int.toNat x7_a) (KidOf.mk 0 Edit.nil))))) (Tree.words (Edit.new (KidOf.e (List.getD (Edit.kids e) (Int.toNat x7_a) (KidOf.mk 0 Edit.nil))))) (Tree.kids (Edit.new (KidOf.e (List.getD (Edit.kids e) (Int.toNat x7_a) (KidOf.mk 0 Edit.nil)))))) (Edit.words (KidOf.e (List.getD (Edit.kids e) (Int.toNat x7_a) (KidOf.mk 0 Edit.nil)))) (Edit.kids (KidOf.e (List.getD (Edit.kids e) (Int.toNat x7_a) (KidOf.mk 0 Edit.nil)))) (Edit.list (KidOf.e (List.getD (Edit.kids e) (Int.toNat x7_a) (KidOf.mk 0 Edit.nil)))) (Edit.ops (KidOf.e (List.getD (Edit.kids e) (Int.toNat x7_a) (KidOf.mk 0 Edit.nil))))) ((d : Int) - 1) x2_a) ((x7_a : Int) + 1))))) ∧ ((bif (decide ((x7_a : Int) < ((Edit.kids e).length : Int))) then (decide ((0 : Int) ≤ x2_a)) else false) = false → (LoopWp (awp cfg (know (know85 N)) (drawOk cfg (know (know85 N))) Try.f85.ntmps lv85 (cd Try.f85 [1, 1, 1, 1, 1, 1, 0, 1, 0, 0])) (head85_2 e d n x2_a 0) (AExit.inBlock 2 (seqK cfg (know (know85 N)) (drawOk cfg (know (know85 N))) Try.f85.ntmps lv85 (cd Try.f85 [1, 1, 1, 1, 1, 1, 1]) Q)))))) := by kernel_rfl
  exact e_.mpr ⟨fun x => x, (by generalize (decide ((x7_a : Int) < ((Edit.kids e).length : Int))) = b0; revert b0; decide), ⟨fun c_14 => ⟨(h.1 c_14).1, (h.1 c_14).2.1, (h.1 c_14).2.2.1, (h.1 c_14).2.2.2.1, ⟨(h.1 c_14).2.2.2.2.1, (h.1 c_14).2.2.2.2.2⟩⟩, fun c_14 => (h.2 c_14)⟩⟩
abbrev W85_l2 (N : Nat) (e : Edit) (d : Int) (n : Int) (x2_b : Int) (x8_b : Int) (N2 : LSt U → Prop) (Q : AExit → LSt U → Prop) : Prop := awp cfg (know (know85 N)) (drawOk cfg (know (know85 N))) Try.f85.ntmps lv85 (cd Try.f85 [1, 1, 1, 1, 1, 1, 0, 1, 0, 0]) (head85_2 e d n x2_b x8_b) (AExit.then N2 (AExit.inBlock 2 (seqK cfg (know (know85 N)) (drawOk cfg (know (know85 N))) Try.f85.ntmps lv85 (cd Try.f85 [1, 1, 1, 1, 1, 1, 1]) Q)))
/-- the loop at [1, 1, 1, 1, 1, 1, 0, 1, 0] -/
theorem vc85_l2 (N : Nat) (e : Edit) (d : Int) (n : Int) (x2_b : Int) (x8_b : Int) (N2 : LSt U → Prop) (Q : AExit → LSt U → Prop) (h : ((bif (decide ((x8_b : Int) < ((Edit.ops e).length : Int))) then (decide ((0 : Int) ≤ x2_b)) else false) = true → LoopWp (awp cfg (know (know85 N)) (drawOk cfg (know (know85 N))) Try.f85.ntmps lv85 (cd Try.f85 [1, 1, 1, 1, 1, 1, 0, 1, 0, 0, 1, 0, 0, 0, 1, 0, 0])) (head85_3 e d n x8_b x2_b 0) (AExit.inBlock 4 (seqK cfg (know (know85 N)) (drawOk cfg (know (know85 N))) Try.f85.ntmps lv85 (cd Try.f85 [1, 1, 1, 1, 1, 1, 0, 1, 0, 0, 1, 0, 0, 1]) (AExit.inBlock 3 (seqK cfg (know (know85 N)) (drawOk cfg (know (know85 N))) Try.f85.ntmps lv85 (cd Try.f85 [1, 1, 1, 1, 1, 1, 0, 1, 0, 0, 1, 1]) (AExit.then N2 (AExit.inBlock 2 (seqK cfg (know (know85 N)) (drawOk cfg (know (know85 N))) Try.f85.ntmps lv85 (cd Try.f85 [1, 1, 1, 1, 1, 1, 1]) Q)))))))) ∧ ((bif (decide ((x8_b : Int) < ((Edit.ops e).length : Int))) then (decide ((0 : Int) ≤ x2_b)) else false) = false → Q .ret (⟨[(6, .c (.int .i64 x2_b))], [], []⟩ : LSt U))) :
    W85_l2 N e d n x2_b x8_b N2 Q := by
  have e_ : (awp cfg (know (know85 N)) (drawOk cfg (know (know85 N))) Try.f85.ntmps lv85 (cd Try.f85 [1, 1, 1, 1, 1, 1, 0, 1, 0, 0]) (head85_2 e d n x2_b x8_b) (AExit.then N2 (AExit.inBlock 2 (seqK cfg (know (know85 N)) (drawOk cfg (know (know85 N))) Try.f85.ntmps lv85 (cd Try.f85 [1, 1, 1, 1, 1, 1, 1]) Q)))) = (((decide ((x8_b : Int) < ((Edit.ops e).length : Int))) = true → (decide ((x8_b : Int) < ((Edit.ops e).length : Int))) = true) ∧ (((decide ((x8_b : Int) < ((Edit.ops e).length : Int))) = true → (decide ((x8_b : Int) < ((Edit.ops e).length : Int))) = true)) ∧ (((bif (decide ((x8_b : Int) < ((Edit.ops e).length : Int))) then (decide ((0 : Int) ≤ x2_b)) else false) = true → (LoopWp (awp cfg (know (know85 N)) (drawOk cfg (know (know85 N))) Try.f85.ntmps lv85 (cd Try.f85 [1, 1, 1, 1, 1, 1, 0, 1, 0, 0, 1, 0, 0, 0, 1, 0, 0])) (head85_3 e d n x8_b x2_b 0) (AExit.inBlock 4 (seqK cfg (know (know85 N)) (drawOk cfg (know (know85 N))) Try.f85.ntmps lv85 (cd Try.f85 [1, 1, 1, 1, 1, 1, 0, 1, 0, 0, 1, 0, 0, 1]) (AExit.inBlock 3 (seqK cfg (know (know85 N)) (drawOk cfg (know (know85 N))) Try.f85.ntmps lv85 (cd Try.f85 [1, 1, 1, 1, 1, 1, 0, 1, 0, 0, 1, 1]) (AExit.then N2 (AExit.inBlock 2 (seqK cfg (know (know85 N)) (drawOk cfg (know (know85 N))) Try.f85.ntmps lv85 (cd Try.f85 [1, 1, 1, 1, 1, 1, 1]) Q))))))))) ∧ ((bif (decide ((x8_b : Int) < ((Edit.ops e).length : Int))) then (decide ((0 : Int) ≤ x2_b)) else false) = false → (Q .ret (⟨[(6, .c (.int .i64 x2_b))], [], []⟩ : LSt U))))) := by kernel_rfl
  exact e_.mpr ⟨fun x => x, (by generalize (decide ((x8_b : Int) < ((Edit.ops e).length : Int))) = b0; revert b0; decide), ⟨fun c_15 => (h.1 c_15), fun c_15 => (h.2 c_15)⟩⟩
abbrev W85_l3 (N : Nat) (e : Edit) (d : Int) (n : Int) (x8_b : Int) (x2_c : Int) (x9_c : Int) (N3 : LSt U → Prop) (N2 : LSt U → Prop) (Q : AExit → LSt U → Prop) : Prop := awp cfg (know (know85 N)) (drawOk cfg (know (know85 N))) Try.f85.ntmps lv85 (cd Try.f85 [1, 1, 1, 1, 1, 1, 0, 1, 0, 0, 1, 0, 0, 0, 1, 0, 0]) (head85_3 e d n x8_b x2_c x9_c) (AExit.then N3 (AExit.inBlock 4 (seqK cfg (know (know85 N)) (drawOk cfg (know (know85 N))) Try.f85.ntmps lv85 (cd Try.f85 [1, 1, 1, 1, 1, 1, 0, 1, 0, 0, 1, 0, 0, 1]) (AExit.inBlock 3 (seqK cfg (know (know85 N)) (drawOk cfg (know (know85 N))) Try.f85.ntmps lv85 (cd Try.f85 [1, 1, 1, 1, 1, 1, 0, 1, 0, 0, 1, 1]) (AExit.then N2 (AExit.inBlock 2 (seqK cfg (know (know85 N)) (drawOk cfg (know (know85 N))) Try.f85.ntmps lv85 (cd Try.f85 [1, 1, 1, 1, 1, 1, 1]) Q))))))))
/-- the loop at [1, 1, 1, 1, 1, 1, 0, 1, 0, 0, 1, 0, 0, 0, 1, 0] -/
theorem vc85_l3 (N : Nat) (e : Edit) (d : Int) (n : Int) (x8_b : Int) (x2_c : Int) (x9_c : Int) (N3 : LSt U → Prop) (N2 : LSt U → Prop) (Q : AExit → LSt U → Prop) (h : ((0 : Int) ≤ x8_b ∧ x8_b < ((Edit.ops e).length : Int)) ∧ (((bif (decide ((x9_c : Int) < ((OpOf.l (List.getD (Edit.ops e) (Int.toNat x8_b) Op.nil)).length : Int))) then (decide ((0 : Int) ≤ x2_c)) else false) = true → ((0 : Int) ≤ x8_b ∧ x8_b < ((Edit.ops e).length : Int)) ∧ ((0 : Int) ≤ x9_c ∧ x9_c < ((OpOf.l (List.getD (Edit.ops e) (Int.toNat x8_b) Op.nil)).length : Int)) ∧ (pre68 ((Tree.mk (Tree.kind (List.getD (OpOf.l (List.getD (Edit.ops e) (Int.toNat x8_b) Op.nil)) (Int.toNat x9_c) Tree.nil)) (Tree.words (List.getD (OpOf.l (List.getD (Edit.ops e) (Int.toNat x8_b) Op.nil)) (Int.toNat x9_c) Tree.nil)) (Tree.kids (List.getD (OpOf.l (List.getD (Edit.ops e) (Int.toNat x8_b) Op.nil)) (Int.toNat x9_c) Tree.nil))), 80, x2_c, ())) ∧ ((InR ((x9_c : Int) + 1)) ∧ (N3 (head85_3 e d n x8_b (shallow (Tree.mk (Tree.kind (List.getD (OpOf.l (List.getD (Edit.ops e) (Int.toNat x8_b) Op.nil)) (Int.toNat x9_c) Tree.nil)) (Tree.words (List.getD (OpOf.l (List.getD (Edit.ops e) (Int.toNat x8_b) Op.nil)) (Int.toNat x9_c) Tree.nil)) (Tree.kids (List.getD (OpOf.l (List.getD (Edit.ops e) (Int.toNat x8_b) Op.nil)) (Int.toNat x9_c) Tree.nil))) 80 x2_c) ((x9_c : Int) + 1))))) ∧ ((bif (decide ((x9_c : Int) < ((OpOf.l (List.getD (Edit.ops e) (Int.toNat x8_b) Op.nil)).length : Int))) then (decide ((0 : Int) ≤ x2_c)) else false) = false → ((decide ((0 : Int) ≤ x2_c)) = true → ((0 : Int) ≤ x8_b ∧ x8_b < ((Edit.ops e).length : Int)) ∧ (InR ((d : Int) - 1)) ∧ (pre85 ((Edit.mk (Edit.kind (OpOf.e (List.getD (Edit.ops e) (Int.toNat x8_b) Op.nil))) (Tree.mk (Tree.kind (Edit.old (OpOf.e (List.getD (Edit.ops e) (Int.toNat x8_b) Op.nil)))) (Tree.words (Edit.old (OpOf.e (List.getD (Edit.ops e) (Int.toNat x8_b) Op.nil)))) (Tree.kids (Edit.old (OpOf.e (List.getD (Edit.ops e) (Int.toNat x8_b) Op.nil))))) (Tree.mk (Tree.kind (Edit.new (OpOf.e (List.getD (Edit.ops e) (Int.toNat x8_b) Op.nil)))) (Tree.words (Edit.new (OpOf.e (List.getD (Edit.ops e) (Int.toNat x8_b) Op.nil)))) (Tree.kids (Edit.new (OpOf.e (List.getD (Edit.ops e) (Int.toNat x8_b) Op.nil))))) (Edit.words (OpOf.e (List.getD (Edit.ops e) (Int.toNat x8_b) Op.nil))) (Edit.kids (OpOf.e (List.getD (Edit.ops e) (Int.toNat x8_b) Op.nil))) (Edit.list (OpOf.e (List.getD (Edit.ops e) (Int.toNat x8_b) Op.nil))) (Edit.ops (OpOf.e (List.getD (Edit.ops e) (Int.toNat x8_b) Op.nil)))), ((d : Int) - 1), x2_c, ())) ∧ (mu85 ((Edit.mk (Edit.kind (OpOf.e (List.getD (Edit.ops e) (Int.toNat x8_b) Op.nil))) (Tree.mk (Tree.kind (Edit.old (OpOf.e (List.getD (Edit.ops e) (Int.toNat x8_b) Op.nil)))) (Tree.words (Edit.old (OpOf.e (List.getD (Edit.ops e) (Int.toNat x8_b) Op.nil)))) (Tree.kids (Edit.old (OpOf.e (List.getD (Edit.ops e) (Int.toNat x8_b) Op.nil))))) (Tree.mk (Tree.kind (Edit.new (OpOf.e (List.getD (Edit.ops e) (Int.toNat x8_b) Op.nil)))) (Tree.words (Edit.new (OpOf.e (List.getD (Edit.ops e) (Int.toNat x8_b) Op.nil)))) (Tree.kids (Edit.new (OpOf.e (List.getD (Edit.ops e) (Int.toNat x8_b) Op.nil))))) (Edit.words (OpOf.e (List.getD (Edit.ops e) (Int.toNat x8_b) Op.nil))) (Edit.kids (OpOf.e (List.getD (Edit.ops e) (Int.toNat x8_b) Op.nil))) (Edit.list (OpOf.e (List.getD (Edit.ops e) (Int.toNat x8_b) Op.nil))) (Edit.ops (OpOf.e (List.getD (Edit.ops e) (Int.toNat x8_b) Op.nil)))), ((d : Int) - 1), x2_c, ()) < N) ∧ ((InR ((x8_b : Int) + 1)) ∧ (N2 (head85_2 e d n (leftE (Edit.mk (Edit.kind (OpOf.e (List.getD (Edit.ops e) (Int.toNat x8_b) Op.nil))) (Tree.mk (Tree.kind (Edit.old (OpOf.e (List.getD (Edit.ops e) (Int.toNat x8_b) Op.nil)))) (Tree.words (Edit.old (OpOf.e (List.getD (Edit.ops e) (Int.toNat x8_b) Op.nil)))) (Tree.kids (Edit.old (OpOf.e (List.getD (Edit.ops e) (Int.toNat x8_b) Op.nil))))) (Tree.mk (Tree.kind (Edit.new (OpOf.e (List.getD (Edit.ops e) (Int.toNat x8_b) Op.nil)))) (Tree.words (Edit.new (OpOf.e (List.getD (Edit.ops e) (Int.toNat x8_b) Op.nil)))) (Tree.kids (Edit.new (OpOf.e (List.getD (Edit.ops e) (Int.toNat x8_b) Op.nil))))) (Edit.words (OpOf.e (List.getD (Edit.ops e) (Int.toNat x8_b) Op.nil))) (Edit.kids (OpOf.e (List.getD (Edit.ops e) (Int.toNat x8_b) Op.nil))) (Edit.list (OpOf.e (List.getD (Edit.ops e) (Int.toNat x8_b) Op.nil))) (Edit.ops (OpOf.e (List.getD (Edit.ops e) (Int.toNat x8_b) Op.nil)))) ((d : Int) - 1) x2_c) ((x8_b : Int) + 1))))) ∧ ((decide ((0 : Int) ≤ x2_c)) = false → (InR ((x8_b : Int) + 1)) ∧ (N2 (head85_2 e d n x2_c ((x8_b : Int) + 1))))))) :
    W85_l3 N e d n x8_b x2_c x9_c N3 N2 Q := by
  have e_ : (awp cfg (know (know85 N)) (drawOk cfg (know (know85 N))) Try.f85.ntmps lv85 (cd Try.f85 [1, 1, 1, 1, 1, 1, 0, 1, 0, 0, 1, 0, 0, 0, 1, 0, 0]) (head85_3 e d n x8_b x2_c x9_c) (AExit.then N3 (AExit.inBlock 4 (seqK cfg (know (know85 N)) (drawOk cfg (know (know85 N))) Try.f85.ntmps lv85 (cd Try.f85 [1, 1, 1, 1, 1, 1, 0, 1, 0, 0, 1, 0, 0, 1]) (AExit.inBlock 3 (seqK cfg (know (know85 N)) (drawOk cfg (know (know85 N))) Try.f85.ntmps lv85 (cd Try.f85 [1, 1, 1, 1, 1, 1, 0, 1, 0, 0, 1, 1]) (AExit.then N2 (AExit.inBlock 2 (seqK cfg (know (know85 N)) (drawOk cfg (know (know85 N))) Try.f85.ntmps lv85 (cd Try.f85 [1, 1, 1, 1, 1, 1, 1]) Q))))))))) = (((0 : Int) ≤ x8_b ∧ x8_b < ((Edit.ops e).length : Int)) ∧ ((decide ((x9_c : Int) < ((OpOf.l (List.getD (Edit.ops e) (Int.toNat x8_b) Op.nil)).length : Int))) = true → (decide ((x9_c : Int) < ((OpOf.l (List.getD (Edit.ops e) (Int.toNat x8_b) Op.nil)).length : Int))) = true) ∧ (((decide ((x9_c : Int) < ((OpOf.l (List.getD (Edit.ops e) (Int.toNat x8_b) Op.nil)).length : Int))) = true → (decide ((x9_c : Int) < ((OpOf.l (List.getD (Edit.ops e) (Int.toNat x8_b) Op.nil)).length : Int))) = true)) ∧ (((bif (decide ((x9_c : Int) < ((OpOf.l (List.getD (Edit.ops e) (Int.toNat x8_b) Op.nil)).length : Int))) then (decide ((0 : Int) ≤ x2_c)) else false) = true → ((0 : Int) ≤ x8_b ∧ x8_b < ((Edit.ops e).length : Int)) ∧ ((0 : Int) ≤ x9_c ∧ x9_c < ((OpOf.l (List.getD (Edit.ops e) (Int.toNat x8_b) Op.nil)).length : Int)) ∧ (pre68 ((Tree.mk (Tree.kind (List.getD (OpOf.l (List.getD (Edit.ops e) (Int.toNat x8_b) Op.nil)) (Int.toNat x9_c) Tree.nil)) (Tree.words (List.getD (OpOf.l (List.getD (Edit.ops e) (Int.toNat x8_b) Op.nil)) (Int.toNat x9_c) Tree.nil)) (Tree.kids (List.getD (OpOf.l (List.getD (Edit.ops e) (Int.toNat x8_b) Op.nil)) (Int.toNat x9_c) Tree.nil))), 80, x2_c, ())) ∧ ((InR ((x9_c : Int) + 1)) ∧ (N3 (head85_3 e d n x8_b (shallow (Tree.mk (Tree.kind (List.getD (OpOf.l (List.getD (Edit.ops e) (Int.toNat x8_b) Op.nil)) (Int.toNat x9_c) Tree.nil)) (Tree.words (List.getD (OpOf.l (List.getD (Edit.ops e) (Int.toNat x8_b) Op.nil)) (Int.toNat x9_c) Tree.nil)) (Tree.kids (List.getD (OpOf.l (List.getD (Edit.ops e) (Int.toNat x8_b) Op.nil)) (Int.toNat x9_c) Tree.nil))) 80 x2_c) ((x9_c : Int) + 1))))) ∧ ((bif (decide ((x9_c : Int) < ((OpOf.l (List.getD (Edit.ops e) (Int.toNat x8_b) Op.nil)).length : Int))) then (decide ((0 : Int) ≤ x2_c)) else false) = false → (((decide ((0 : Int) ≤ x2_c)) = true → ((0 : Int) ≤ x8_b ∧ x8_b < ((Edit.ops e).length : Int)) ∧ (InR ((d : Int) - 1)) ∧ (pre85 ((Edit.mk (Edit.kind (OpOf.e (List.getD (Edit.ops e) (Int.toNat x8_b) Op.nil))) (Tree.mk (Tree.kind (Edit.old (OpOf.e (List.getD (Edit.ops e) (Int.toNat x8_b) Op.nil)))) (Tree.words (Edit.old (OpOf.e (List.getD (Edit.ops e) (Int.toNat x8_b) Op.nil)))) (Tree.kids (Edit.old (OpOf.e (List.getD (Edit.ops e) (Int.toNat x8_b) Op.nil))))) (Tree.mk (Tree.kind (Edit.new (OpOf.e (List.getD (Edit.ops e) (Int.toNat x8_b) Op.nil)))) (Tree.words (Edit.new (OpOf.e (List.getD (Edit.ops e) (Int.toNat x8_b) Op.nil)))) (Tree.kids (Edit.new (OpOf.e (List.getD (Edit.ops e) (Int.toNat x8_b) Op.nil))))) (Edit.words (OpOf.e (List.getD (Edit.ops e) (Int.toNat x8_b) Op.nil))) (Edit.kids (OpOf.e (List.getD (Edit.ops e) (Int.toNat x8_b) Op.nil))) (Edit.list (OpOf.e (List.getD (Edit.ops e) (Int.toNat x8_b) Op.nil))) (Edit.ops (OpOf.e (List.getD (Edit.ops e) (Int.toNat x8_b) Op.nil)))), ((d : Int) - 1), x2_c, ())) ∧ (mu85 ((Edit.mk (Edit.kind (OpOf.e (List.getD (Edit.ops e) (Int.toNat x8_b) Op.nil))) (Tree.mk (Tree.kind (Edit.old (OpOf.e (List.getD (Edit.ops e) (Int.toNat x8_b) Op.nil)))) (Tree.words (Edit.old (OpOf.e (List.getD (Edit.ops e) (Int.toNat x8_b) Op.nil)))) (Tree.kids (Edit.old (OpOf.e (List.getD (Edit.ops e) (Int.toNat x8_b) Op.nil))))) (Tree.mk (Tree.kind (Edit.new (OpOf.e (List.getD (Edit.ops e) (Int.toNat x8_b) Op.nil)))) (Tree.words (Edit.new (OpOf.e (List.getD (Edit.ops e) (Int.toNat x8_b) Op.nil)))) (Tree.kids (Edit.new (OpOf.e (List.getD (Edit.ops e) (Int.toNat x8_b) Op.nil))))) (Edit.words (OpOf.e (List.getD (Edit.ops e) (Int.toNat x8_b) Op.nil))) (Edit.kids (OpOf.e (List.getD (Edit.ops e) (Int.toNat x8_b) Op.nil))) (Edit.list (OpOf.e (List.getD (Edit.ops e) (Int.toNat x8_b) Op.nil))) (Edit.ops (OpOf.e (List.getD (Edit.ops e) (Int.toNat x8_b) Op.nil)))), ((d : Int) - 1), x2_c, ()) < N) ∧ ((InR ((x8_b : Int) + 1)) ∧ (N2 (head85_2 e d n (leftE (Edit.mk (Edit.kind (OpOf.e (List.getD (Edit.ops e) (Int.toNat x8_b) Op.nil))) (Tree.mk (Tree.kind (Edit.old (OpOf.e (List.getD (Edit.ops e) (Int.toNat x8_b) Op.nil)))) (Tree.words (Edit.old (OpOf.e (List.getD (Edit.ops e) (Int.toNat x8_b) Op.nil)))) (Tree.kids (Edit.old (OpOf.e (List.getD (Edit.ops e) (Int.toNat x8_b) Op.nil))))) (Tree.mk (Tree.kind (Edit.new (OpOf.e (List.getD (Edit.ops e) (Int.toNat x8_b) Op.nil)))) (Tree.words (Edit.new (OpOf.e (List.getD (Edit.ops e) (Int.toNat x8_b) Op.nil)))) (Tree.kids (Edit.new (OpOf.e (List.getD (Edit.ops e) (Int.toNat x8_b) Op.nil))))) (Edit.words (OpOf.e (List.getD (Edit.ops e) (Int.toNat x8_b) Op.nil))) (Edit.kids (OpOf.e (List.getD (Edit.ops e) (Int.toNat x8_b) Op.nil))) (Edit.list (OpOf.e (List.getD (Edit.ops e) (Int.toNat x8_b) Op.nil))) (Edit.ops (OpOf.e (List.getD (Edit.ops e) (Int.toNat x8_b) Op.nil)))) ((d : Int) - 1) x2_c) ((x8_b : Int) + 1))))) ∧ ((decide ((0 : Int) ≤ x2_c)) = false → (InR ((x8_b : Int) + 1)) ∧ (N2 (head85_2 e d n x2_c ((x8_b : Int) + 1)))))))) := by kernel_rfl
  exact e_.mpr ⟨h.1, fun x => x, (by generalize (decide ((x9_c : Int) < ((OpOf.l (List.getD (Edit.ops e) (Int.toNat x8_b) Op.nil)).length : Int))) = b0; revert b0; decide), ⟨fun c_16 => ⟨(h.2.1 c_16).1, (h.2.1 c_16).2.1, (h.2.1 c_16).2.2.1, ⟨(h.2.1 c_16).2.2.2.1, (h.2.1 c_16).2.2.2.2⟩⟩, fun c_16 => ⟨fun c_17 => ⟨((h.2.2 c_16).1 c_17).1, ((h.2.2 c_16).1 c_17).2.1, ((h.2.2 c_16).1 c_17).2.2.1, ((h.2.2 c_16).1 c_17).2.2.2.1, ⟨((h.2.2 c_16).1 c_17).2.2.2.2.1, ((h.2.2 c_16).1 c_17).2.2.2.2.2⟩⟩, fun c_17 => ⟨((h.2.2 c_16).2 c_17).1, ((h.2.2 c_16).2 c_17).2⟩⟩⟩⟩
def Body85 (N : Nat) (e : Edit) (d : Int) (n : Int)  : Prop := awp cfg (know (know85 N)) (drawOk cfg (know (know85 N))) Try.f85.ntmps lv85 (cd Try.f85 []) (entry (args85.can (e, d, n, ())) []) (EndsQ cfg Try.f85.ntmps Try.f85.results.toList (res85 (e, d, n, ())) [])
theorem make85 (c68 : Contract Try.prog cfg 68 spec68) (hb : ∀ (N : Nat) (e : Edit) (d : Int) (n : Int) (_ : Unit), pre85 (e, d, n, ()) → mu85 (e, d, n, ()) < N + 1 → Body85 N e d n) : Contract Try.prog cfg 85 spec85 :=
  contract_rec (μ := mu85) (l := [(68, spec68)]) cfgOk rfl (⟨c68, trivial⟩) lv85 Try.func85 rfl rfl 3 (fun _ => rfl) (by decide) (fun N ⟨e, d, n, _⟩ => hb N e d n ())

/-! cento/centoref20.Few -/
noncomputable def know54 : List (FuncId × Fs U) := [(85, spec85)]
def lv54 : Lives U := fun i => match i with
  | 0 => ([(1, [])], [((.loc 1), [])])
  | 1 => ([(2, [])], [])
  | _ => ([], [])
abbrev W54 (e : Edit) (Q : AExit → LSt U → Prop) : Prop := awp cfg (know know54) (drawOk cfg (know know54)) Try.f54.ntmps lv54 (cd Try.f54 []) (⟨[(0, .agg [.int .i64 (Edit.kind e), .int .i64 (Tree.kind (Edit.old e)), .slice (U := U) .u64 (Tree.words (Edit.old e)) .unk, .slice (U := U) .tree (Tree.kids (Edit.old e)) .unk, .int .i64 (Tree.kind (Edit.new e)), .slice (U := U) .u64 (Tree.words (Edit.new e)) .unk, .slice (U := U) .tree (Tree.kids (Edit.new e)) .unk, .slice (U := U) .wedit (Edit.words e) .unk, .slice (U := U) .kid (Edit.kids e) .unk, .int .i64 (Edit.list e), .slice (U := U) .op (Edit.ops e) .unk])], [], []⟩ : LSt U) Q
/-- the body -/
theorem vc54 (e : Edit) (Q : AExit → LSt U → Prop) (h : (pre85 ((Edit.mk (Edit.kind e) (Tree.mk (Tree.kind (Edit.old e)) (Tree.words (Edit.old e)) (Tree.kids (Edit.old e))) (Tree.mk (Tree.kind (Edit.new e)) (Tree.words (Edit.new e)) (Tree.kids (Edit.new e))) (Edit.words e) (Edit.kids e) (Edit.list e) (Edit.ops e)), 80, 3000, ())) ∧ (Q .ret (⟨[(2, .c (.bool (decide ((0 : Int) ≤ (leftE (Edit.mk (Edit.kind e) (Tree.mk (Tree.kind (Edit.old e)) (Tree.words (Edit.old e)) (Tree.kids (Edit.old e))) (Tree.mk (Tree.kind (Edit.new e)) (Tree.words (Edit.new e)) (Tree.kids (Edit.new e))) (Edit.words e) (Edit.kids e) (Edit.list e) (Edit.ops e)) 80 3000)))))], [], []⟩ : LSt U))) :
    W54 e Q := by
  have e_ : (awp cfg (know know54) (drawOk cfg (know know54)) Try.f54.ntmps lv54 (cd Try.f54 []) (⟨[(0, .agg [.int .i64 (Edit.kind e), .int .i64 (Tree.kind (Edit.old e)), .slice (U := U) .u64 (Tree.words (Edit.old e)) .unk, .slice (U := U) .tree (Tree.kids (Edit.old e)) .unk, .int .i64 (Tree.kind (Edit.new e)), .slice (U := U) .u64 (Tree.words (Edit.new e)) .unk, .slice (U := U) .tree (Tree.kids (Edit.new e)) .unk, .slice (U := U) .wedit (Edit.words e) .unk, .slice (U := U) .kid (Edit.kids e) .unk, .int .i64 (Edit.list e), .slice (U := U) .op (Edit.ops e) .unk])], [], []⟩ : LSt U) Q) = (((pre85 ((Edit.mk (Edit.kind e) (Tree.mk (Tree.kind (Edit.old e)) (Tree.words (Edit.old e)) (Tree.kids (Edit.old e))) (Tree.mk (Tree.kind (Edit.new e)) (Tree.words (Edit.new e)) (Tree.kids (Edit.new e))) (Edit.words e) (Edit.kids e) (Edit.list e) (Edit.ops e)), 80, 3000, ())) ∧ (Q .ret (⟨[(2, .c (.bool (decide ((0 : Int) ≤ (leftE (Edit.mk (Edit.kind e) (Tree.mk (Tree.kind (Edit.old e)) (Tree.words (Edit.old e)) (Tree.kids (Edit.old e))) (Tree.mk (Tree.kind (Edit.new e)) (Tree.words (Edit.new e)) (Tree.kids (Edit.new e))) (Edit.words e) (Edit.kids e) (Edit.list e) (Edit.ops e)) 80 3000)))))], [], []⟩ : LSt U)))) := by kernel_rfl
  exact e_.mpr ⟨h.1, h.2⟩
def Body54 (e : Edit)  : Prop := awp cfg (know (know54)) (drawOk cfg (know (know54))) Try.f54.ntmps lv54 (cd Try.f54 []) (entry (args54.can (e, ())) []) (EndsQ cfg Try.f54.ntmps Try.f54.results.toList (res54 (e, ())) [])
theorem make54 (c85 : Contract Try.prog cfg 85 spec85) (hb : ∀ (e : Edit) (_ : Unit), pre54 (e, ()) → Body54 e) : Contract Try.prog cfg 54 spec54 :=
  contract_flat (l := [(85, spec85)]) cfgOk rfl (⟨c85, trivial⟩) lv54 Try.func54 rfl rfl 1 (fun _ => rfl) (by decide) (fun ⟨e, _⟩ => hb e ())

end Go.AM.Ytlahjnelghpmeaa

namespace Go.AM.Ytlahjnelghpmeaa
open Go.AM Go.Proofs

/-! cento/centoref20.Right -/
/-! cento/centoref20.op -/
/-! cento/centoref20.Light -/
/-! cento/centoref20.Good -/
end Go.AM.Ytlahjnelghpmeaa

namespace Go.AM.Ytlahjnelghpmeaa
open Go.AM Go.Proofs

theorem wrap_u64 {n : Int} (h0 : 0 ≤ n) (h1 : n < 18446744073709551616) : IntKind.wrap .u64 n = n := by
  simp [IntKind.wrap, IntKind.signed, IntKind.bits]; omega

end Go.AM.Ytlahjnelghpmeaa

namespace Go.AM.Ytlahjnelghpmeaa
open Go.AM Go.Proofs

theorem drop_getD {α : Type} {l : List α} {i : Nat} (h : i < l.length) (d : α) : l.drop i = l.getD i d :: l.drop (i + 1) := by
  rw [List.drop_eq_getElem_cons h]
  simp [List.getD, h]

theorem dropI {α : Type} {l : List α} {i : Int} (h0 : 0 ≤ i) (h : i < l.length) (d : α) : l.drop i.toNat = l.getD i.toNat d :: l.drop (i + 1).toNat := by
  rw [drop_getD (by omega) d, show i.toNat + 1 = (i + 1).toNat by omega]

theorem mem_getD {α : Type} {l : List α} {i : Nat} (h : i < l.length) (d : α) : l.getD i d ∈ l := by
  simp only [List.getD, List.getElem?_eq_getElem h, Option.getD_some]
  exact List.getElem_mem h

theorem massE_pos (e : Edit) : 1 ≤ massE e := by cases e; simp only [massE]; omega

theorem massKid_e (k : Kid) : massKid k = massE k.e := by cases k; rfl
theorem massOp_e (o : Op) : massOp o = massK o.l + massE o.e := by cases o; rfl

theorem massK_mem : ∀ {ks : List Tree} {t : Tree}, t ∈ ks → mass t ≤ massK ks
  | x :: r, t, h => by
    simp only [massK]
    rcases List.mem_cons.1 h with rfl | h
    · omega
    · have := massK_mem h; omega

theorem massKs_mem : ∀ {ks : List Kid} {k : Kid}, k ∈ ks → massE k.e ≤ massKs ks
  | x :: r, k, h => by
    simp only [massKs, massKid_e]
    rcases List.mem_cons.1 h with rfl | h
    · omega
    · have := massKs_mem h; omega

theorem massOs_mem : ∀ {os : List Op} {o : Op}, o ∈ os → massOp o ≤ massOs os
  | x :: r, o, h => by
    simp only [massOs]
    rcases List.mem_cons.1 h with rfl | h
    · omega
    · have := massOs_mem h; omega

theorem massKs_len : ∀ (ks : List Kid), ks.length ≤ massKs ks
  | [] => by simp [massKs]
  | k :: r => by
    have := massKs_len r
    have := massE_pos k.e
    simp only [massKs, massKid_e, List.length_cons]
    omega

theorem massOs_len : ∀ (os : List Op), os.length ≤ massOs os
  | [] => by simp [massOs]
  | o :: r => by
    have := massOs_len r
    have := massE_pos o.e
    simp only [massOs, massOp_e, List.length_cons]
    omega

theorem smallK_mem : ∀ {ks : List Tree} {t : Tree}, smallK ks → t ∈ ks → small t
  | x :: r, t, hs, h => by
    simp only [smallK] at hs
    rcases List.mem_cons.1 h with rfl | h
    · exact hs.1
    · exact smallK_mem hs.2 h

theorem smallKs_mem : ∀ {ks : List Kid} {k : Kid}, smallKs ks → k ∈ ks → smallE k.e
  | x :: r, k, hs, h => by
    simp only [smallKs] at hs
    rcases List.mem_cons.1 h with rfl | h
    · have := hs.1; obtain ⟨a, e⟩ := k; exact this
    · exact smallKs_mem hs.2 h

theorem smallOs_mem : ∀ {os : List Op} {o : Op}, smallOs os → o ∈ os → o.l.length ≤ 17592186044416 ∧ smallK o.l ∧ smallE o.e
  | x :: r, o, hs, h => by
    simp only [smallOs] at hs
    rcases List.mem_cons.1 h with rfl | h
    · have := hs.1; obtain ⟨a, b, c, e⟩ := o; exact this
    · exact smallOs_mem hs.2 h

theorem rngK_mem : ∀ {ks : List Tree} {t : Tree}, rngK ks → t ∈ ks → rng t
  | x :: r, t, hs, h => by
    simp only [rngK] at hs
    rcases List.mem_cons.1 h with rfl | h
    · exact hs.1
    · exact rngK_mem hs.2 h

theorem rngKs_mem : ∀ {ks : List Kid} {k : Kid}, rngKs ks → k ∈ ks → isI k.at_ ∧ rngE k.e
  | x :: r, k, hs, h => by
    simp only [rngKs] at hs
    rcases List.mem_cons.1 h with rfl | h
    · have := hs.1; obtain ⟨a, e⟩ := k; exact this
    · exact rngKs_mem hs.2 h

theorem rngOs_mem : ∀ {os : List Op} {o : Op}, rngOs os → o ∈ os → rngOp o
  | x :: r, o, hs, h => by
    simp only [rngOs] at hs
    rcases List.mem_cons.1 h with rfl | h
    · exact hs.1
    · exact rngOs_mem hs.2 h

theorem rngOp_e {o : Op} (h : rngOp o) : isI o.kind ∧ isI o.n ∧ rngK o.l ∧ rngE o.e := by obtain ⟨a, b, c, e⟩ := o; exact h

/-! ## left -/
theorem leftKid_e (k : Kid) (d n : Int) : leftKid k d n = leftE k.e d n := by cases k; rfl
theorem leftOp_e (o : Op) (d n : Int) : leftOp o d n = if shallowK o.l 80 n < 0 then shallowK o.l 80 n else leftE o.e d (shallowK o.l 80 n) := by cases o; rfl

theorem sh1_range (t : Tree) (n : Int) (h : -1 ≤ n) : -1 ≤ sh1 t n ∧ sh1 t n ≤ n := by
  unfold sh1
  split
  · omega
  · have := shallow_range t 80 n; omega

mutual
theorem leftE_range : ∀ (e : Edit) (d n : Int), -1 ≤ leftE e d n ∧ leftE e d n ≤ max n (-1)
  | .mk _ o nw w ks _ os, d, n => by
    simp only [leftE]
    split
    · omega
    · have h1 := shallow_range o 80 (n - 1 - w.length - os.length)
      have h2 := sh1_range nw _ h1.1
      have h3 := leftKs_range ks (d - 1) _ h2.1
      have h4 := leftOs_range os (d - 1) _ h3.1
      omega
theorem leftKs_range : ∀ (ks : List (KidOf Edit)) (d n : Int), -1 ≤ n → -1 ≤ leftKs ks d n ∧ leftKs ks d n ≤ n
  | [], d, n, h => by simp only [leftKs]; omega
  | k :: r, d, n, h => by
    simp only [leftKs]
    split
    · omega
    · have h1 := leftKid_range k d n
      have h2 := leftKs_range r d _ h1.1
      omega
theorem leftKid_range : ∀ (k : KidOf Edit) (d n : Int), -1 ≤ leftKid k d n ∧ leftKid k d n ≤ max n (-1)
  | ⟨_, e⟩, d, n => by
    simp only [leftKid]
    exact leftE_range e d n
theorem leftOs_range : ∀ (os : List (OpOf Edit)) (d n : Int), -1 ≤ n → -1 ≤ leftOs os d n ∧ leftOs os d n ≤ n
  | [], d, n, h => by simp only [leftOs]; omega
  | o :: r, d, n, h => by
    simp only [leftOs]
    split
    · omega
    · have h1 := leftOp_range o d n h
      have h2 := leftOs_range r d _ h1.1
      omega
theorem leftOp_range : ∀ (o : OpOf Edit) (d n : Int), -1 ≤ n → -1 ≤ leftOp o d n ∧ leftOp o d n ≤ n
  | ⟨_, _, l, e⟩, d, n, h => by
    simp only [leftOp]
    have h1 := shallowK_range l 80 n h
    split
    · omega
    · have h2 := leftE_range e d (shallowK l 80 n)
      omega
end

theorem sh1_mass {t : Tree} {n : Int} (h : 0 ≤ sh1 t n) : (mass t : Int) + sh1 t n ≤ n := by
  unfold sh1 at *
  split at h
  · omega
  · rename_i hn
    rw [if_neg hn]
    exact shallow_mass t 80 n h

mutual
theorem leftE_mass : ∀ (e : Edit) (d n : Int), 0 ≤ leftE e d n → (massE e : Int) + leftE e d n ≤ n
  | .mk _ o nw w ks _ os, d, n, h => by
    simp only [leftE] at h ⊢
    split at h
    · omega
    · rename_i hc
      rw [if_neg hc]
      have r1 := shallow_range o 80 (n - 1 - w.length - os.length)
      have r2 := sh1_range nw _ r1.1
      have r3 := leftKs_range ks (d - 1) _ r2.1
      have r4 := leftOs_range os (d - 1) _ r3.1
      have m4 := leftOs_mass os (d - 1) _ h
      have m3 := leftKs_mass ks (d - 1) (sh1 nw (shallow o 80 (n - 1 - w.length - os.length))) (by omega)
      have m2 := sh1_mass (t := nw) (n := shallow o 80 (n - 1 - w.length - os.length)) (by omega)
      have m1 := shallow_mass o 80 (n - 1 - w.length - os.length) (by omega)
      simp only [massE]
      omega
theorem leftKs_mass : ∀ (ks : List (KidOf Edit)) (d n : Int), 0 ≤ leftKs ks d n → (massKs ks : Int) + leftKs ks d n ≤ n
  | [], d, n, h => by simp only [leftKs, massKs]; omega
  | k :: r, d, n, h => by
    simp only [leftKs] at h ⊢
    split at h
    · omega
    · rename_i hc
      rw [if_neg hc]
      have r1 := leftKid_range k d n
      have r2 := leftKs_range r d _ r1.1
      have m2 := leftKs_mass r d _ h
      have m1 := leftKid_mass k d n (by omega)
      simp only [massKs]
      omega
theorem leftKid_mass : ∀ (k : KidOf Edit) (d n : Int), 0 ≤ leftKid k d n → (massKid k : Int) + leftKid k d n ≤ n
  | ⟨_, e⟩, d, n, h => by
    simp only [leftKid, massKid] at h ⊢
    exact leftE_mass e d n h
theorem leftOs_mass : ∀ (os : List (OpOf Edit)) (d n : Int), 0 ≤ leftOs os d n → (massOs os : Int) + leftOs os d n ≤ n
  | [], d, n, h => by simp only [leftOs, massOs]; omega
  | o :: r, d, n, h => by
    simp only [leftOs] at h ⊢
    split at h
    · omega
    · rename_i hc
      rw [if_neg hc]
      have r1 := leftOp_range o d n (by omega)
      have r2 := leftOs_range r d _ r1.1
      have m2 := leftOs_mass r d _ h
      have m1 := leftOp_mass o d n (by omega)
      simp only [massOs]
      omega
theorem leftOp_mass : ∀ (o : OpOf Edit) (d n : Int), 0 ≤ leftOp o d n → (massOp o : Int) + leftOp o d n ≤ n
  | ⟨_, _, l, e⟩, d, n, h => by
    simp only [leftOp, massOp] at h ⊢
    split at h
    · omega
    · rename_i hc
      rw [if_neg hc]
      have m2 := leftE_mass e d _ h
      have r2 := leftE_range e d (shallowK l 80 n)
      have m1 := shallowK_mass l 80 n (by omega)
      omega
end

theorem few_massE {e : Edit} (h : 0 ≤ leftE e 80 3000) : massE e ≤ 3000 := by
  have := leftE_mass e 80 3000 h
  omega

end Go.AM.Ytlahjnelghpmeaa

namespace Go.AM.Ytlahjnelghpmeaa
open Go.AM Go.Proofs

theorem len_mass (t : Tree) : t.words.length + t.kids.length < mass t := by
  obtain ⟨k, w, ks⟩ := t
  have := massK_len ks
  simp only [mass, Tree.words_mk, Tree.kids_mk]
  omega

theorem len_massE (e : Edit) : mass e.old + mass e.new + e.words.length + e.ops.length + massKs e.kids + massOs e.ops < massE e := by
  obtain ⟨k, o, n, w, ks, l, os⟩ := e
  simp only [massE, Edit.old_mk, Edit.new_mk, Edit.words_mk, Edit.ops_mk, Edit.kids_mk]
  omega

theorem leftKs_neg {l : List Kid} {d n : Int} (h : n < 0) : leftKs l d n = n := by cases l <;> simp [leftKs, h]
theorem leftOs_neg {l : List Op} {d n : Int} (h : n < 0) : leftOs l d n = n := by cases l <;> simp [leftOs, h]
theorem shallowK_neg {l : List Tree} {d n : Int} (h : n < 0) : shallowK l d n = n := by cases l <;> simp [shallowK, h]

theorem smallE_at {e : Edit} (h : smallE e) : small e.old ∧ small e.new ∧ e.words.length ≤ 17592186044416 ∧ e.kids.length ≤ 17592186044416 ∧ e.ops.length ≤ 17592186044416 ∧ smallKs e.kids ∧ smallOs e.ops := by
  obtain ⟨k, o, n, w, ks, l, os⟩ := e; exact h

theorem leftE_at (e : Edit) (d n : Int) : leftE e d n = if d = 0 ∨ n - 1 - e.words.length - e.ops.length < 0 then -1 else leftOs e.ops (d - 1) (leftKs e.kids (d - 1) (sh1 e.new (shallow e.old 80 (n - 1 - e.words.length - e.ops.length)))) := by
  obtain ⟨k, o, nw, w, ks, l, os⟩ := e; rfl

theorem c85 : Contract Try.prog cfg 85 spec85 := by
  refine make85 c68 ?_
  rintro N e d n _ hp hN
  simp only [pre85, mu85] at hp hN
  obtain ⟨hs, hd0, hd1, hn0, hn1⟩ := hp
  obtain ⟨so, sn, lw, lk, lo, sk, sos⟩ := smallE_at hs
  have hme := len_massE e
  have hres := leftE_at e d n
  refine vc85 N e d n _ ?_
  (simp only [bif_tl, bif_fr, bif_tlf, bif_frf, Bool.not_eq_true', Bool.not_eq_false', decide_eq_true_eq, decide_eq_false_iff_not, beq_iff_eq, beq_eq_false_iff_ne, bne_iff_ne, ne_eq, bne_eq_false_iff_eq, Bool.or_eq_true, Bool.and_eq_true, Bool.or_eq_false_iff, Bool.and_eq_false_imp])
  (simp only [Tree.eta, Edit.eta, Tree.kind_mk, Tree.words_mk, Tree.kids_mk])
  refine ⟨by unfold InR; omega, by unfold InR; omega, by unfold InR; omega, fun hc => ends_int rfl (by rw [hres, if_pos hc]), fun hc => ?_⟩
  rw [if_neg (by omega)] at hres
  have r1 := shallow_range e.old 80 (n - 1 - e.words.length - e.ops.length)
  have p68 : ∀ t m, small t → -1 ≤ m → m ≤ 4611686018427387904 → pre68 (t, 80, m, ()) := fun t m h1 h2 h3 => ⟨h1, by dsimp only; omega, by dsimp only; omega, h2, h3⟩
  have k0 : ∀ x, x = sh1 e.new (shallow e.old 80 (n - 1 - e.words.length - e.ops.length)) → W85_c0 N e d n x (EndsQ cfg Try.f85.ntmps Try.f85.results.toList (res85 (e, d, n, ())) []) := by
    intro x hx
    have rx := sh1_range e.new _ r1.1
    rw [← hx] at rx hres
    refine vc85_c0 N e d n x _ ?_
    refine loop_rule (ι := Int × Int) (fun p => head85_1 e d n p.1 p.2) (fun p => 0 ≤ p.2 ∧ p.2 ≤ e.kids.length ∧ -1 ≤ p.1 ∧ p.1 ≤ 4611686018427387904 ∧ leftKs (e.kids.drop p.2.toNat) (d - 1) p.1 = leftKs e.kids (d - 1) x) (fun p => ((e.kids.length : Int) - p.2).toNat) (x, 0) rfl ⟨by dsimp only; omega, by dsimp only; omega, by dsimp only; omega, by dsimp only; omega, by simp⟩ ?_
    rintro ⟨y, i⟩ ⟨h1, h2, h3, h4, h5⟩
    dsimp only at *
    refine vc85_l1 N e d n y i _ _ ?_
    (simp only [bif_tl, bif_fr, bif_tlf, bif_frf, Bool.not_eq_true', Bool.not_eq_false', decide_eq_true_eq, decide_eq_false_iff_not, beq_iff_eq, beq_eq_false_iff_ne, bne_iff_ne, ne_eq, bne_eq_false_iff_eq, Bool.or_eq_true, Bool.and_eq_true, Bool.or_eq_false_iff, Bool.and_eq_false_imp])
    (simp only [Tree.eta, Edit.eta, Tree.kind_mk, Tree.words_mk, Tree.kids_mk])
    refine ⟨fun hi => ?_, fun hi => ?_⟩
    · have hmem := mem_getD (l := e.kids) (i := i.toNat) (by omega) (KidOf.mk 0 Edit.nil)
      have hsm := smallKs_mem sk hmem
      have hmm := massKs_mem hmem
      rw [dropI h1 hi.1 (KidOf.mk 0 Edit.nil)] at h5
      simp only [leftKs] at h5
      rw [if_neg (by omega), leftKid_e] at h5
      have rr := leftE_range (e.kids.getD i.toNat (KidOf.mk 0 Edit.nil)).e (d - 1) y
      exact ⟨⟨h1, hi.1⟩, by unfold InR; omega, ⟨hsm, by dsimp only; omega, by dsimp only; omega, h3, h4⟩, by simp only [mu85]; omega, by unfold InR; omega, (_, i + 1), rfl, ⟨by dsimp only; omega, by dsimp only; omega, by dsimp only; omega, by dsimp only; omega, h5⟩, by dsimp only; omega⟩
    · have hy : leftKs e.kids (d - 1) x = y := by
        rw [← h5]
        by_cases hlt : i < e.kids.length
        · exact leftKs_neg (by omega)
        · rw [List.drop_of_length_le (by omega)]; rfl
      rw [hy] at hres
      refine loop_rule (ι := Int × Int) (fun p => head85_2 e d n p.1 p.2) (fun p => 0 ≤ p.2 ∧ p.2 ≤ e.ops.length ∧ -1 ≤ p.1 ∧ p.1 ≤ 4611686018427387904 ∧ leftOs (e.ops.drop p.2.toNat) (d - 1) p.1 = leftOs e.ops (d - 1) y) (fun p => ((e.ops.length : Int) - p.2).toNat) (y, 0) rfl ⟨by dsimp only; omega, by dsimp only; omega, h3, h4, by simp⟩ ?_
      rintro ⟨z, j⟩ ⟨h6, h7, h8, h9, h10⟩
      dsimp only at *
      refine vc85_l2 N e d n z j _ _ ?_
      (simp only [bif_tl, bif_fr, bif_tlf, bif_frf, Bool.not_eq_true', Bool.not_eq_false', decide_eq_true_eq, decide_eq_false_iff_not, beq_iff_eq, beq_eq_false_iff_ne, bne_iff_ne, ne_eq, bne_eq_false_iff_eq, Bool.or_eq_true, Bool.and_eq_true, Bool.or_eq_false_iff, Bool.and_eq_false_imp])
      refine ⟨fun hj => ?_, fun hj => ?_⟩
      · have hmem := mem_getD (l := e.ops) (i := j.toNat) (by omega) Op.nil
        have hsm := smallOs_mem sos hmem
        have hmm := massOs_mem hmem
        rw [massOp_e] at hmm
        rw [dropI h6 hj.1 Op.nil] at h10
        simp only [leftOs] at h10
        rw [if_neg (by omega), leftOp_e] at h10
        refine loop_rule (ι := Int × Int) (fun p => head85_3 e d n j p.1 p.2) (fun p => 0 ≤ p.2 ∧ p.2 ≤ (e.ops.getD j.toNat Op.nil).l.length ∧ -1 ≤ p.1 ∧ p.1 ≤ 4611686018427387904 ∧ shallowK ((e.ops.getD j.toNat Op.nil).l.drop p.2.toNat) 80 p.1 = shallowK (e.ops.getD j.toNat Op.nil).l 80 z) (fun p => (((e.ops.getD j.toNat Op.nil).l.length : Int) - p.2).toNat) (z, 0) rfl ⟨by dsimp only; omega, by dsimp only; omega, h8, h9, by simp⟩ ?_
        rintro ⟨u, k⟩ ⟨g1, g2, g3, g4, g5⟩
        dsimp only at *
        refine vc85_l3 N e d n j u k _ _ _ ?_
        (simp only [bif_tl, bif_fr, bif_tlf, bif_frf, Bool.not_eq_true', Bool.not_eq_false', decide_eq_true_eq, decide_eq_false_iff_not, beq_iff_eq, beq_eq_false_iff_ne, bne_iff_ne, ne_eq, bne_eq_false_iff_eq, Bool.or_eq_true, Bool.and_eq_true, Bool.or_eq_false_iff, Bool.and_eq_false_imp])
        (simp only [Tree.eta, Edit.eta, Tree.kind_mk, Tree.words_mk, Tree.kids_mk])
        refine ⟨⟨h6, hj.1⟩, fun hk => ?_, fun hk => ?_⟩
        · have hmt := mem_getD (l := (e.ops.getD j.toNat Op.nil).l) (i := k.toNat) (by omega) Tree.nil
          rw [dropI g1 hk.1 Tree.nil] at g5
          simp only [shallowK] at g5
          rw [if_neg (by omega)] at g5
          have rr := shallow_range ((e.ops.getD j.toNat Op.nil).l.getD k.toNat Tree.nil) 80 u
          exact ⟨⟨h6, hj.1⟩, ⟨g1, hk.1⟩, p68 _ _ (smallK_mem hsm.2.1 hmt) g3 g4, by unfold InR; omega, (_, k + 1), rfl, ⟨by dsimp only; omega, by dsimp only; omega, by dsimp only; omega, by dsimp only; omega, g5⟩, by dsimp only; omega⟩
        · have hu : shallowK (e.ops.getD j.toNat Op.nil).l 80 z = u := by
            rw [← g5]
            by_cases hlt : k < (e.ops.getD j.toNat Op.nil).l.length
            · exact shallowK_neg (by omega)
            · rw [List.drop_of_length_le (by omega)]; rfl
          rw [hu] at h10
          have rr := leftE_range (e.ops.getD j.toNat Op.nil).e (d - 1) u
          refine ⟨fun hq => ⟨⟨h6, hj.1⟩, by unfold InR; omega, ⟨hsm.2.2, by dsimp only; omega, by dsimp only; omega, g3, g4⟩, by simp only [mu85]; omega, by unfold InR; omega, (_, j + 1), rfl, ⟨by dsimp only; omega, by dsimp only; omega, by dsimp only; omega, by dsimp only; omega, ?_⟩, by dsimp only; omega⟩,
            fun hq => ⟨by unfold InR; omega, (_, j + 1), rfl, ⟨by dsimp only; omega, by dsimp only; omega, by dsimp only; omega, by dsimp only; omega, ?_⟩, by dsimp only; omega⟩⟩
          · rw [if_neg (by omega)] at h10; exact h10
          · rw [if_pos (by omega)] at h10; exact h10
      · refine ends_int rfl ?_
        rw [hres, ← h10]
        by_cases hlt : j < e.ops.length
        · exact (leftOs_neg (by omega)).symm
        · rw [List.drop_of_length_le (by omega)]; rfl
  refine ⟨p68 _ _ so (by omega) (by omega), fun hq => ⟨p68 _ _ sn r1.1 (by omega), k0 _ ?_⟩, fun hq => k0 _ ?_⟩
  · unfold sh1; rw [if_neg (by omega)]
  · unfold sh1; rw [if_pos (by omega)]

theorem c54 : Contract Try.prog cfg 54 spec54 := by
  refine make54 c85 ?_
  intro e _ hp
  refine vc54 e _ ?_
  (simp only [Tree.eta, Edit.eta, Tree.kind_mk, Tree.words_mk, Tree.kids_mk])
  exact ⟨⟨hp, by dsimp only; omega, by dsimp only; omega, by dsimp only; omega, by dsimp only; omega⟩, ends_bool rfl rfl⟩

end Go.AM.Ytlahjnelghpmeaa

namespace Go.AM.Ytlahjnelghpmeaa
open Go.AM Go.Proofs

theorem rightE_at (e : Edit) (d : Int) : rightE e d =
    if d = 0 ∨ e.kind < 0 ∨ 3 < e.kind then false
    else if (e.kind ≠ 1 ∧ ¬(noneT e.old = true ∧ noneT e.new = true)) ∨ (e.kind ≠ 2 ∧ ¬(e.words.length = 0 ∧ e.kids.length = 0)) ∨ (e.kind ≠ 3 ∧ (e.list ≠ 0 ∨ e.ops.length ≠ 0)) then false
    else if e.kind = 1 then rightT e.old 64 && rightT e.new 64 && decide (e.old.kind ≠ 10 ∧ e.new.kind ≠ 10)
    else wordsOk (-1) e.words && rightKs (-1) e.kids (d - 1) && decide (¬(e.kind = 3 ∧ (e.list < 2 ∨ 9 < e.list))) && rightOs e.list e.ops (d - 1) && decide (lenA e.ops 0 < 1048576 ∧ lenB e.ops 0 < 1048576) := by
  obtain ⟨k, o, nw, w, ks, l, os⟩ := e; rfl

theorem rightKid_at (last : Int) (k : Kid) (d : Int) : rightKid last k d = (decide (last < k.at_ ∧ k.at_ ≤ 65534 ∧ k.e.kind ≠ 0) && rightE k.e d) := by cases k; rfl

theorem rightOp_at (list : Int) (o : Op) (d : Int) : rightOp list o d =
    if o.kind = 0 then decide (1 ≤ o.n ∧ o.n ≤ 1048576 ∧ o.l.length = 0) && sameE o.e
    else if o.n ≠ 0 ∨ o.kind < 0 ∨ 3 < o.kind then false
    else if o.kind < 3 then treesOk list o.l && decide (0 < o.l.length) && sameE o.e
    else decide (o.l.length = 0 ∧ o.e.kind ≠ 0 ∧ 7 < list) && rightE o.e d && decide (list = 8 ∨ o.e.kind = 2 ∨ o.e.kind = 1 ∧ o.e.old.kind = 1 ∧ o.e.new.kind = 1) := by
  cases o; rfl

theorem rightOp_n {list : Int} {o : Op} {d : Int} (h : rightOp list o d = true) : 0 ≤ o.n ∧ o.n ≤ 1048576 := by
  rw [rightOp_at] at h
  split at h
  · simp only [Bool.and_eq_true, decide_eq_true_eq] at h; omega
  · split at h
    · cases h
    · rename_i h1; omega

theorem rightOs_mem {list d : Int} : ∀ {os : List Op} {o : Op}, rightOs list os d = true → o ∈ os → rightOp list o d = true
  | x :: r, o, h, hm => by
    simp only [rightOs, Bool.and_eq_true] at h
    rcases List.mem_cons.1 hm with rfl | hm
    · exact h.1
    · exact rightOs_mem h.2 hm

theorem rightKs_mem {d : Int} : ∀ {ks : List Kid} {last : Int} {k : Kid}, rightKs last ks d = true → k ∈ ks → rightE k.e d = true ∧ k.e.kind ≠ 0
  | x :: r, last, k, h, hm => by
    simp only [rightKs, Bool.and_eq_true] at h
    rcases List.mem_cons.1 hm with rfl | hm
    · have := h.1; rw [rightKid_at] at this; simp only [Bool.and_eq_true, decide_eq_true_eq] at this; exact ⟨this.2, this.1.2.2⟩
    · exact rightKs_mem h.2 hm

theorem rngE_at {e : Edit} (h : rngE e) : isI e.kind ∧ rng e.old ∧ rng e.new ∧ (∀ x ∈ e.words, rngW x) ∧ isI e.list ∧ rngKs e.kids ∧ rngOs e.ops := by
  obtain ⟨k, o, n, w, ks, l, os⟩ := e; exact h

theorem rightE_in {e : Edit} {d : Int} (h : rightE e d = true) : (∀ k ∈ e.kids, rightE k.e (d - 1) = true ∧ k.e.kind ≠ 0) ∧ ∀ o ∈ e.ops, rightOp e.list o (d - 1) = true := by
  rw [rightE_at] at h
  split at h
  · cases h
  · split at h
    · cases h
    · rename_i h1 h2
      split at h
      · rename_i h3
        have hk : e.kids = [] := List.eq_nil_of_length_eq_zero (by omega)
        have ho : e.ops = [] := List.eq_nil_of_length_eq_zero (by omega)
        rw [hk, ho]
        exact ⟨fun k hk => (by cases hk), fun o ho => (by cases ho)⟩
      · simp only [Bool.and_eq_true] at h
        exact ⟨fun k hk => rightKs_mem h.1.1.1.2 hk, fun o ho => rightOs_mem h.1.2 ho⟩

theorem sameE_eq {e : Edit} (h : sameE e = true) : e.kind = 0 ∧ noneT e.old = true ∧ noneT e.new = true ∧ e.words = [] ∧ e.kids = [] ∧ e.ops = [] ∧ e.list = 0 := by
  simp only [sameE, Bool.and_eq_true, decide_eq_true_eq] at h
  obtain ⟨⟨⟨h1, h2⟩, h3⟩, h4, h5, h6, h7⟩ := h
  exact ⟨h1, h2, h3, List.eq_nil_of_length_eq_zero h4, List.eq_nil_of_length_eq_zero h5, List.eq_nil_of_length_eq_zero h6, h7⟩

theorem sameE_right {e : Edit} (h : sameE e = true) (d : Int) (hd : d ≠ 0) : rightE e d = true := by
  obtain ⟨h1, h2, h3, h4, h5, h6, h7⟩ := sameE_eq h
  rw [rightE_at, h1, h2, h3, h4, h5, h6, h7, if_neg (by omega), if_neg (by simp), if_neg (by omega)]
  simp [wordsOk, rightKs, rightOs, lenA, lenB]

end Go.AM.Ytlahjnelghpmeaa
