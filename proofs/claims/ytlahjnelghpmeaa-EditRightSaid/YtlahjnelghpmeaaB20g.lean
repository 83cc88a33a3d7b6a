/- Printed by program: what is known of each function, and the conditions that its code comes to. -/
import Derived.Test.YtlahjnelghpmeaaD20x
import Derived.Test.YtlahjnelghpmeaaL07
set_option linter.unusedSimpArgs false
set_option linter.unusedVariables false
namespace Go.AM.Ytlahjnelghpmeaa
open Go.AM Go.Proofs

def args56 : ArgL (Edit × Unit) := (.cons (aEl .edit) .nil)
def pre56 (a : Edit × Unit) : Prop := massE a.1 ≤ 1000000
noncomputable def res56 (a : Edit × Unit) : V U := .tup [(false, [.int .i64 (lenAW (Edit.ops a.1) 0)]), (false, [.int .i64 (lenBW (Edit.ops a.1) 0)])]
noncomputable def spec56 : Fs U := fs args56 (fun a => [pre56 a]) res56

def args1057 : ArgL (Edit × Unit) := (.cons (aEl .edit) .nil)
def pre1057 (a : Edit × Unit) : Prop := massE a.1 ≤ 1000000
noncomputable def res1057 (a : Edit × Unit) : V U := .tup [(false, [.int .i64 (lenAW (Edit.ops a.1) 0)]), (false, [.int .i64 (lenBW (Edit.ops a.1) 0)])]
noncomputable def spec1057 : Fs U := fs args1057 (fun a => [pre1057 a]) res1057

/-! cento/edit.Lengths -/
noncomputable def know56 : List (FuncId × Fs U) := []
def lv56 : Lives U := fun i => match i with
  | 0 => ([(1, [])], [((.loc 1), [])])
  | 1 => ([(1, []), (4, []), (5, [])], [((.loc 1), [])])
  | 2 => ([(4, []), (5, []), (10, []), (11, []), (12, [])], [])
  | 3 => ([(4, []), (5, []), (10, []), (11, []), (12, []), (13, [])], [])
  | 4 => ([(4, []), (5, []), (7, []), (10, []), (11, []), (12, [])], [((.loc 7), [])])
  | 5 => ([(4, []), (5, []), (7, []), (8, []), (10, []), (11, []), (12, [])], [((.loc 7), [])])
  | 6 => ([(4, []), (5, []), (7, []), (8, []), (10, []), (11, []), (12, []), (24, [])], [((.loc 7), [])])
  | 7 => ([(4, []), (5, []), (7, []), (8, []), (10, []), (11, []), (12, []), (24, [])], [((.loc 7), [])])
  | 8 => ([(4, []), (5, []), (7, []), (8, []), (10, []), (11, []), (12, []), (27, [])], [((.loc 7), [])])
  | 9 => ([(4, []), (5, []), (7, []), (8, []), (10, []), (11, []), (12, []), (27, [])], [((.loc 7), [])])
  | 10 => ([(4, []), (5, []), (8, []), (10, []), (11, []), (12, []), (34, [])], [])
  | 11 => ([(4, []), (5, []), (10, []), (11, []), (12, [])], [])
  | 12 => ([(4, []), (5, []), (10, []), (11, []), (12, [])], [])
  | 13 => ([(2, []), (3, [])], [])
  | _ => ([], [])
def head56_0 (e : Edit) (x4 : Int) (x5 : Int) (x12 : Int) : LSt U := (⟨[(4, .c (.int .i64 x4)), (5, .c (.int .i64 x5)), (10, .c (.slice (U := U) .op (Edit.ops e) .unk)), (11, .c (.int .i64 ((Edit.ops e).length : Int))), (12, .c (.int .i64 x12))], [], []⟩ : LSt U)
def head56_1 (e : Edit) (x4 : Int) (x5 : Int) (x12 : Int) (x8_a : Int) : LSt U := (⟨[(4, .c (.int .i64 x4)), (5, .c (.int .i64 x5)), (7, .ptr (.loc 7) 0), (8, .c (.int .i64 x8_a)), (10, .c (.slice (U := U) .op (Edit.ops e) .unk)), (11, .c (.int .i64 ((Edit.ops e).length : Int))), (12, .c (.int .i64 x12)), (24, .c (.bool (((OpOf.kind (List.getD (Edit.ops e) (Int.toNat x12) Op.nil)) : Int) == 3)))], [((.loc 7), [.int .i64 (OpOf.kind (List.getD (Edit.ops e) (Int.toNat x12) Op.nil)), .int .i64 (OpOf.n (List.getD (Edit.ops e) (Int.toNat x12) Op.nil)), .slice (U := U) .tree (OpOf.l (List.getD (Edit.ops e) (Int.toNat x12) Op.nil)) .unk, .int .i64 (Edit.kind (OpOf.e (List.getD (Edit.ops e) (Int.toNat x12) Op.nil))), .int .i64 (Tree.kind (Edit.old (OpOf.e (List.getD (Edit.ops e) (Int.toNat x12) Op.nil)))), .slice (U := U) .u64 (Tree.words (Edit.old (OpOf.e (List.getD (Edit.ops e) (Int.toNat x12) Op.nil)))) .unk, .slice (U := U) .tree (Tree.kids (Edit.old (OpOf.e (List.getD (Edit.ops e) (Int.toNat x12) Op.nil)))) .unk, .int .i64 (Tree.kind (Edit.new (OpOf.e (List.getD (Edit.ops e) (Int.toNat x12) Op.nil)))), .slice (U := U) .u64 (Tree.words (Edit.new (OpOf.e (List.getD (Edit.ops e) (Int.toNat x12) Op.nil)))) .unk, .slice (U := U) .tree (Tree.kids (Edit.new (OpOf.e (List.getD (Edit.ops e) (Int.toNat x12) Op.nil)))) .unk, .slice (U := U) .wedit (Edit.words (OpOf.e (List.getD (Edit.ops e) (Int.toNat x12) Op.nil))) .unk, .slice (U := U) .kid (Edit.kids (OpOf.e (List.getD (Edit.ops e) (Int.toNat x12) Op.nil))) .unk, .int .i64 (Edit.list (OpOf.e (List.getD (Edit.ops e) (Int.toNat x12) Op.nil))), .slice (U := U) .op (Edit.ops (OpOf.e (List.getD (Edit.ops e) (Int.toNat x12) Op.nil))) .unk])], []⟩ : LSt U)
def head56_2 (e : Edit) (x5 : Int) (x12 : Int) (x8_a : Int) (x4_b : Int) : LSt U := (⟨[(4, .c (.int .i64 x4_b)), (5, .c (.int .i64 x5)), (7, .ptr (.loc 7) 0), (8, .c (.int .i64 x8_a)), (10, .c (.slice (U := U) .op (Edit.ops e) .unk)), (11, .c (.int .i64 ((Edit.ops e).length : Int))), (12, .c (.int .i64 x12)), (27, .c (.bool (((OpOf.kind (List.getD (Edit.ops e) (Int.toNat x12) Op.nil)) : Int) != 2)))], [((.loc 7), [.int .i64 (OpOf.kind (List.getD (Edit.ops e) (Int.toNat x12) Op.nil)), .int .i64 (OpOf.n (List.getD (Edit.ops e) (Int.toNat x12) Op.nil)), .slice (U := U) .tree (OpOf.l (List.getD (Edit.ops e) (Int.toNat x12) Op.nil)) .unk, .int .i64 (Edit.kind (OpOf.e (List.getD (Edit.ops e) (Int.toNat x12) Op.nil))), .int .i64 (Tree.kind (Edit.old (OpOf.e (List.getD (Edit.ops e) (Int.toNat x12) Op.nil)))), .slice (U := U) .u64 (Tree.words (Edit.old (OpOf.e (List.getD (Edit.ops e) (Int.toNat x12) Op.nil)))) .unk, .slice (U := U) .tree (Tree.kids (Edit.old (OpOf.e (List.getD (Edit.ops e) (Int.toNat x12) Op.nil)))) .unk, .int .i64 (Tree.kind (Edit.new (OpOf.e (List.getD (Edit.ops e) (Int.toNat x12) Op.nil)))), .slice (U := U) .u64 (Tree.words (Edit.new (OpOf.e (List.getD (Edit.ops e) (Int.toNat x12) Op.nil)))) .unk, .slice (U := U) .tree (Tree.kids (Edit.new (OpOf.e (List.getD (Edit.ops e) (Int.toNat x12) Op.nil)))) .unk, .slice (U := U) .wedit (Edit.words (OpOf.e (List.getD (Edit.ops e) (Int.toNat x12) Op.nil))) .unk, .slice (U := U) .kid (Edit.kids (OpOf.e (List.getD (Edit.ops e) (Int.toNat x12) Op.nil))) .unk, .int .i64 (Edit.list (OpOf.e (List.getD (Edit.ops e) (Int.toNat x12) Op.nil))), .slice (U := U) .op (Edit.ops (OpOf.e (List.getD (Edit.ops e) (Int.toNat x12) Op.nil))) .unk])], []⟩ : LSt U)
abbrev W56 (e : Edit) (Q : AExit → LSt U → Prop) : Prop := awp cfg (knowW know56) (drawOk cfg (knowW know56)) Try.f56.ntmps lv56 (cd Try.f56 []) (⟨[(0, .agg [.int .i64 (Edit.kind e), .int .i64 (Tree.kind (Edit.old e)), .slice (U := U) .u64 (Tree.words (Edit.old e)) .unk, .slice (U := U) .tree (Tree.kids (Edit.old e)) .unk, .int .i64 (Tree.kind (Edit.new e)), .slice (U := U) .u64 (Tree.words (Edit.new e)) .unk, .slice (U := U) .tree (Tree.kids (Edit.new e)) .unk, .slice (U := U) .wedit (Edit.words e) .unk, .slice (U := U) .kid (Edit.kids e) .unk, .int .i64 (Edit.list e), .slice (U := U) .op (Edit.ops e) .unk])], [], []⟩ : LSt U) Q
/-- the body -/
theorem vc56 (e : Edit) (Q : AExit → LSt U → Prop) (h : LoopWp (awp cfg (knowW know56) (drawOk cfg (knowW know56)) Try.f56.ntmps lv56 (cd Try.f56 [1, 1, 0, 1, 0, 0])) (head56_0 e 0 0 0) (AExit.inBlock 0 (seqK cfg (knowW know56) (drawOk cfg (knowW know56)) Try.f56.ntmps lv56 (cd Try.f56 [1, 1, 1]) Q))) :
    W56 e Q := by
  have e_ : (awp cfg (knowW know56) (drawOk cfg (knowW know56)) Try.f56.ntmps lv56 (cd Try.f56 []) (⟨[(0, .agg [.int .i64 (Edit.kind e), .int .i64 (Tree.kind (Edit.old e)), .slice (U := U) .u64 (Tree.words (Edit.old e)) .unk, .slice (U := U) .tree (Tree.kids (Edit.old e)) .unk, .int .i64 (Tree.kind (Edit.new e)), .slice (U := U) .u64 (Tree.words (Edit.new e)) .unk, .slice (U := U) .tree (Tree.kids (Edit.new e)) .unk, .slice (U := U) .wedit (Edit.words e) .unk, .slice (U := U) .kid (Edit.kids e) .unk, .int .i64 (Edit.list e), .slice (U := U) .op (Edit.ops e) .unk])], [], []⟩ : LSt U) Q) = ((((LoopWp (awp cfg (knowW know56) (drawOk cfg (knowW know56)) Try.f56.ntmps lv56 (cd Try.f56 [1, 1, 0, 1, 0, 0])) (head56_0 e 0 0 0) (AExit.inBlock 0 (seqK cfg (knowW know56) (drawOk cfg (knowW know56)) Try.f56.ntmps lv56 (cd Try.f56 [1, 1, 1]) Q)))))) := by kernel_rfl
  exact e_.mpr h
abbrev W56_l0 (e : Edit) (x4 : Int) (x5 : Int) (x12 : Int) (N0 : LSt U → Prop) (Q : AExit → LSt U → Prop) : Prop := awp cfg (knowW know56) (drawOk cfg (knowW know56)) Try.f56.ntmps lv56 (cd Try.f56 [1, 1, 0, 1, 0, 0]) (head56_0 e x4 x5 x12) (AExit.then N0 (AExit.inBlock 0 (seqK cfg (knowW know56) (drawOk cfg (knowW know56)) Try.f56.ntmps lv56 (cd Try.f56 [1, 1, 1]) Q)))
/-- the loop at [1, 1, 0, 1, 0] -/
theorem vc56_l0 (e : Edit) (x4 : Int) (x5 : Int) (x12 : Int) (N0 : LSt U → Prop) (Q : AExit → LSt U → Prop) (h : ((decide ((x12 : Int) < ((Edit.ops e).length : Int))) = true → ((0 : Int) ≤ x12 ∧ x12 < ((Edit.ops e).length : Int)) ∧ (((((OpOf.kind (List.getD (Edit.ops e) (Int.toNat x12) Op.nil)) : Int) == 3) = true → awp cfg (knowW know56) (drawOk cfg (knowW know56)) Try.f56.ntmps lv56 (cd Try.f56 [1, 1, 0, 1, 0, 0, 1, 1, 0, 0, 1, 1, 1]) (head56_1 e x4 x5 x12 1) (AExit.inBlock 1 (seqK cfg (knowW know56) (drawOk cfg (knowW know56)) Try.f56.ntmps lv56 (cd Try.f56 [1, 1, 0, 1, 0, 0, 1, 1, 1]) (AExit.then N0 (AExit.inBlock 0 (seqK cfg (knowW know56) (drawOk cfg (knowW know56)) Try.f56.ntmps lv56 (cd Try.f56 [1, 1, 1]) Q)))))) ∧ ((((OpOf.kind (List.getD (Edit.ops e) (Int.toNat x12) Op.nil)) : Int) == 3) = false → awp cfg (knowW know56) (drawOk cfg (knowW know56)) Try.f56.ntmps lv56 (cd Try.f56 [1, 1, 0, 1, 0, 0, 1, 1, 0, 0, 1, 1, 1]) (head56_1 e x4 x5 x12 (IntKind.wrap .i64 (((OpOf.n (List.getD (Edit.ops e) (Int.toNat x12) Op.nil)) : Int) + ((OpOf.l (List.getD (Edit.ops e) (Int.toNat x12) Op.nil)).length : Int)))) (AExit.inBlock 1 (seqK cfg (knowW know56) (drawOk cfg (knowW know56)) Try.f56.ntmps lv56 (cd Try.f56 [1, 1, 0, 1, 0, 0, 1, 1, 1]) (AExit.then N0 (AExit.inBlock 0 (seqK cfg (knowW know56) (drawOk cfg (knowW know56)) Try.f56.ntmps lv56 (cd Try.f56 [1, 1, 1]) Q)))))))) ∧ ((decide ((x12 : Int) < ((Edit.ops e).length : Int))) = false → Q .ret (⟨[(2, .c (.int .i64 x4)), (3, .c (.int .i64 x5))], [], []⟩ : LSt U))) :
    W56_l0 e x4 x5 x12 N0 Q := by
  have e_ : (awp cfg (knowW know56) (drawOk cfg (knowW know56)) Try.f56.ntmps lv56 (cd Try.f56 [1, 1, 0, 1, 0, 0]) (head56_0 e x4 x5 x12) (AExit.then N0 (AExit.inBlock 0 (seqK cfg (knowW know56) (drawOk cfg (knowW know56)) Try.f56.ntmps lv56 (cd Try.f56 [1, 1, 1]) Q)))) = ((((decide ((x12 : Int) < ((Edit.ops e).length : Int))) = true → ((0 : Int) ≤ x12 ∧ x12 < ((Edit.ops e).length : Int)) ∧ (((((((OpOf.kind (List.getD (Edit.ops e) (Int.toNat x12) Op.nil)) : Int) == 3) = true → (awp cfg (knowW know56) (drawOk cfg (knowW know56)) Try.f56.ntmps lv56 (cd Try.f56 [1, 1, 0, 1, 0, 0, 1, 1, 0, 0, 1, 1, 1]) (head56_1 e x4 x5 x12 1) (AExit.inBlock 1 (seqK cfg (knowW know56) (drawOk cfg (knowW know56)) Try.f56.ntmps lv56 (cd Try.f56 [1, 1, 0, 1, 0, 0, 1, 1, 1]) (AExit.then N0 (AExit.inBlock 0 (seqK cfg (knowW know56) (drawOk cfg (knowW know56)) Try.f56.ntmps lv56 (cd Try.f56 [1, 1, 1]) Q))))))) ∧ ((((OpOf.kind (List.getD (Edit.ops e) (Int.toNat x12) Op.nil)) : Int) == 3) = false → awp cfg (knowW know56) (drawOk cfg (knowW know56)) Try.f56.ntmps lv56 (cd Try.f56 [1, 1, 0, 1, 0, 0, 1, 1, 0, 0, 1, 1, 1]) (head56_1 e x4 x5 x12 (IntKind.wrap .i64 (((OpOf.n (List.getD (Edit.ops e) (Int.toNat x12) Op.nil)) : Int) + ((OpOf.l (List.getD (Edit.ops e) (Int.toNat x12) Op.nil)).length : Int)))) (AExit.inBlock 1 (seqK cfg (knowW know56) (drawOk cfg (knowW know56)) Try.f56.ntmps lv56 (cd Try.f56 [1, 1, 0, 1, 0, 0, 1, 1, 1]) (AExit.then N0 (AExit.inBlock 0 (seqK cfg (knowW know56) (drawOk cfg (knowW know56)) Try.f56.ntmps lv56 (cd Try.f56 [1, 1, 1]) Q)))))))))) ∧ ((decide ((x12 : Int) < ((Edit.ops e).length : Int))) = false → (Q .ret (⟨[(2, .c (.int .i64 x4)), (3, .c (.int .i64 x5))], [], []⟩ : LSt U))))) := by kernel_rfl
  exact e_.mpr ⟨fun c_1 => ⟨(h.1 c_1).1, ⟨fun c_2 => ((h.1 c_1).2.1 c_2), fun c_2 => ((h.1 c_1).2.2 c_2)⟩⟩, fun c_1 => (h.2 c_1)⟩
abbrev W56_c1 (e : Edit) (x4 : Int) (x5 : Int) (x12 : Int) (x8_a : Int) (N0 : LSt U → Prop) (Q : AExit → LSt U → Prop) : Prop := awp cfg (knowW know56) (drawOk cfg (knowW know56)) Try.f56.ntmps lv56 (cd Try.f56 [1, 1, 0, 1, 0, 0, 1, 1, 0, 0, 1, 1, 1]) (head56_1 e x4 x5 x12 x8_a) (AExit.inBlock 1 (seqK cfg (knowW know56) (drawOk cfg (knowW know56)) Try.f56.ntmps lv56 (cd Try.f56 [1, 1, 0, 1, 0, 0, 1, 1, 1]) (AExit.then N0 (AExit.inBlock 0 (seqK cfg (knowW know56) (drawOk cfg (knowW know56)) Try.f56.ntmps lv56 (cd Try.f56 [1, 1, 1]) Q)))))
/-- what follows at [1, 1, 0, 1, 0, 0, 1, 1, 0, 0, 1, 1, 1] -/
theorem vc56_c1 (e : Edit) (x4 : Int) (x5 : Int) (x12 : Int) (x8_a : Int) (N0 : LSt U → Prop) (Q : AExit → LSt U → Prop) (h : ((((OpOf.kind (List.getD (Edit.ops e) (Int.toNat x12) Op.nil)) : Int) != 2) = true → awp cfg (knowW know56) (drawOk cfg (knowW know56)) Try.f56.ntmps lv56 (cd Try.f56 [1, 1, 0, 1, 0, 0, 1, 1, 0, 0, 1, 1, 1, 1]) (head56_2 e x5 x12 x8_a (if (1048576 : Int) < (IntKind.wrap .i64 ((x4 : Int) + x8_a)) then 1048576 else (IntKind.wrap .i64 ((x4 : Int) + x8_a)))) (AExit.inBlock 1 (seqK cfg (knowW know56) (drawOk cfg (knowW know56)) Try.f56.ntmps lv56 (cd Try.f56 [1, 1, 0, 1, 0, 0, 1, 1, 1]) (AExit.then N0 (AExit.inBlock 0 (seqK cfg (knowW know56) (drawOk cfg (knowW know56)) Try.f56.ntmps lv56 (cd Try.f56 [1, 1, 1]) Q)))))) ∧ ((((OpOf.kind (List.getD (Edit.ops e) (Int.toNat x12) Op.nil)) : Int) != 2) = false → awp cfg (knowW know56) (drawOk cfg (knowW know56)) Try.f56.ntmps lv56 (cd Try.f56 [1, 1, 0, 1, 0, 0, 1, 1, 0, 0, 1, 1, 1, 1]) (head56_2 e x5 x12 x8_a x4) (AExit.inBlock 1 (seqK cfg (knowW know56) (drawOk cfg (knowW know56)) Try.f56.ntmps lv56 (cd Try.f56 [1, 1, 0, 1, 0, 0, 1, 1, 1]) (AExit.then N0 (AExit.inBlock 0 (seqK cfg (knowW know56) (drawOk cfg (knowW know56)) Try.f56.ntmps lv56 (cd Try.f56 [1, 1, 1]) Q))))))) :
    W56_c1 e x4 x5 x12 x8_a N0 Q := by
  have e_ : (awp cfg (knowW know56) (drawOk cfg (knowW know56)) Try.f56.ntmps lv56 (cd Try.f56 [1, 1, 0, 1, 0, 0, 1, 1, 0, 0, 1, 1, 1]) (head56_1 e x4 x5 x12 x8_a) (AExit.inBlock 1 (seqK cfg (knowW know56) (drawOk cfg (knowW know56)) Try.f56.ntmps lv56 (cd Try.f56 [1, 1, 0, 1, 0, 0, 1, 1, 1]) (AExit.then N0 (AExit.inBlock 0 (seqK cfg (knowW know56) (drawOk cfg (knowW know56)) Try.f56.ntmps lv56 (cd Try.f56 [1, 1, 1]) Q)))))) = ((((((OpOf.kind (List.getD (Edit.ops e) (Int.toNat x12) Op.nil)) : Int) != 2) = true → (awp cfg (knowW know56) (drawOk cfg (knowW know56)) Try.f56.ntmps lv56 (cd Try.f56 [1, 1, 0, 1, 0, 0, 1, 1, 0, 0, 1, 1, 1, 1]) (head56_2 e x5 x12 x8_a (if (1048576 : Int) < (IntKind.wrap .i64 ((x4 : Int) + x8_a)) then 1048576 else (IntKind.wrap .i64 ((x4 : Int) + x8_a)))) (AExit.inBlock 1 (seqK cfg (knowW know56) (drawOk cfg (knowW know56)) Try.f56.ntmps lv56 (cd Try.f56 [1, 1, 0, 1, 0, 0, 1, 1, 1]) (AExit.then N0 (AExit.inBlock 0 (seqK cfg (knowW know56) (drawOk cfg (knowW know56)) Try.f56.ntmps lv56 (cd Try.f56 [1, 1, 1]) Q))))))) ∧ ((((OpOf.kind (List.getD (Edit.ops e) (Int.toNat x12) Op.nil)) : Int) != 2) = false → awp cfg (knowW know56) (drawOk cfg (knowW know56)) Try.f56.ntmps lv56 (cd Try.f56 [1, 1, 0, 1, 0, 0, 1, 1, 0, 0, 1, 1, 1, 1]) (head56_2 e x5 x12 x8_a x4) (AExit.inBlock 1 (seqK cfg (knowW know56) (drawOk cfg (knowW know56)) Try.f56.ntmps lv56 (cd Try.f56 [1, 1, 0, 1, 0, 0, 1, 1, 1]) (AExit.then N0 (AExit.inBlock 0 (seqK cfg (knowW know56) (drawOk cfg (knowW know56)) Try.f56.ntmps lv56 (cd Try.f56 [1, 1, 1]) Q)))))))) := by kernel_rfl
  exact e_.mpr ⟨fun c_3 => (h.1 c_3), fun c_3 => (h.2 c_3)⟩
abbrev W56_c2 (e : Edit) (x5 : Int) (x12 : Int) (x8_a : Int) (x4_b : Int) (N0 : LSt U → Prop) (Q : AExit → LSt U → Prop) : Prop := awp cfg (knowW know56) (drawOk cfg (knowW know56)) Try.f56.ntmps lv56 (cd Try.f56 [1, 1, 0, 1, 0, 0, 1, 1, 0, 0, 1, 1, 1, 1]) (head56_2 e x5 x12 x8_a x4_b) (AExit.inBlock 1 (seqK cfg (knowW know56) (drawOk cfg (knowW know56)) Try.f56.ntmps lv56 (cd Try.f56 [1, 1, 0, 1, 0, 0, 1, 1, 1]) (AExit.then N0 (AExit.inBlock 0 (seqK cfg (knowW know56) (drawOk cfg (knowW know56)) Try.f56.ntmps lv56 (cd Try.f56 [1, 1, 1]) Q)))))
/-- what follows at [1, 1, 0, 1, 0, 0, 1, 1, 0, 0, 1, 1, 1, 1] -/
theorem vc56_c2 (e : Edit) (x5 : Int) (x12 : Int) (x8_a : Int) (x4_b : Int) (N0 : LSt U → Prop) (Q : AExit → LSt U → Prop) (h : ((((OpOf.kind (List.getD (Edit.ops e) (Int.toNat x12) Op.nil)) : Int) != 1) = true → N0 (head56_0 e x4_b (if (1048576 : Int) < (IntKind.wrap .i64 ((x5 : Int) + x8_a)) then 1048576 else (IntKind.wrap .i64 ((x5 : Int) + x8_a))) (IntKind.wrap .i64 ((x12 : Int) + 1)))) ∧ ((((OpOf.kind (List.getD (Edit.ops e) (Int.toNat x12) Op.nil)) : Int) != 1) = false → N0 (head56_0 e x4_b x5 (IntKind.wrap .i64 ((x12 : Int) + 1))))) :
    W56_c2 e x5 x12 x8_a x4_b N0 Q := by
  have e_ : (awp cfg (knowW know56) (drawOk cfg (knowW know56)) Try.f56.ntmps lv56 (cd Try.f56 [1, 1, 0, 1, 0, 0, 1, 1, 0, 0, 1, 1, 1, 1]) (head56_2 e x5 x12 x8_a x4_b) (AExit.inBlock 1 (seqK cfg (knowW know56) (drawOk cfg (knowW know56)) Try.f56.ntmps lv56 (cd Try.f56 [1, 1, 0, 1, 0, 0, 1, 1, 1]) (AExit.then N0 (AExit.inBlock 0 (seqK cfg (knowW know56) (drawOk cfg (knowW know56)) Try.f56.ntmps lv56 (cd Try.f56 [1, 1, 1]) Q)))))) = ((((((OpOf.kind (List.getD (Edit.ops e) (Int.toNat x12) Op.nil)) : Int) != 1) = true → ((N0 (head56_0 e x4_b (if (1048576 : Int) < (IntKind.wrap .i64 ((x5 : Int) + x8_a)) then 1048576 else (IntKind.wrap .i64 ((x5 : Int) + x8_a))) (IntKind.wrap .i64 ((x12 : Int) + 1)))))) ∧ ((((OpOf.kind (List.getD (Edit.ops e) (Int.toNat x12) Op.nil)) : Int) != 1) = false → (N0 (head56_0 e x4_b x5 (IntKind.wrap .i64 ((x12 : Int) + 1))))))) := by kernel_rfl
  exact e_.mpr ⟨fun c_4 => (h.1 c_4), fun c_4 => (h.2 c_4)⟩
def Body56 (e : Edit)  : Prop := awp cfg (knowW (know56)) (drawOk cfg (knowW (know56))) Try.f56.ntmps lv56 (cd Try.f56 []) (entry (args56.can (e, ())) []) (EndsQ cfg Try.f56.ntmps Try.f56.results.toList (res56 (e, ())) [])
theorem make56 (hb : ∀ (e : Edit) (_ : Unit), pre56 (e, ()) → Body56 e) : Contract Try.prog cfg 56 spec56 :=
  contract_flatW (l := []) cfgOk rfl (trivial) lv56 Try.func56 rfl rfl 1 (fun _ => rfl) (by decide) (fun ⟨e, _⟩ => hb e ())

/-! cento/centoref20.Lengths -/
noncomputable def know1057 : List (FuncId × Fs U) := []
def lv1057 : Lives U := fun i => match i with
  | 0 => ([(1, [])], [((.loc 1), [])])
  | 1 => ([(1, []), (4, []), (5, [])], [((.loc 1), [])])
  | 2 => ([(1, []), (4, []), (5, []), (6, [])], [((.loc 1), [])])
  | 3 => ([(1, []), (4, []), (5, []), (6, []), (13, [])], [((.loc 1), [])])
  | 4 => ([(1, []), (4, []), (5, []), (6, [])], [((.loc 1), [])])
  | 5 => ([(1, []), (4, []), (5, []), (6, []), (7, [])], [((.loc 1), []), ((.loc 7), [])])
  | 6 => ([(1, []), (4, []), (5, []), (6, []), (7, []), (8, [])], [((.loc 1), []), ((.loc 7), [])])
  | 7 => ([(1, []), (4, []), (5, []), (6, []), (7, []), (8, []), (29, [])], [((.loc 1), []), ((.loc 7), [])])
  | 8 => ([(1, []), (4, []), (5, []), (6, []), (7, []), (8, []), (29, [])], [((.loc 1), []), ((.loc 7), [])])
  | 9 => ([(1, []), (4, []), (5, []), (6, []), (7, []), (8, []), (32, [])], [((.loc 1), []), ((.loc 7), [])])
  | 10 => ([(1, []), (4, []), (5, []), (6, []), (7, []), (8, []), (32, [])], [((.loc 1), []), ((.loc 7), [])])
  | 11 => ([(1, []), (4, []), (5, []), (6, []), (8, []), (38, [])], [((.loc 1), [])])
  | 12 => ([(1, []), (4, []), (5, []), (6, []), (8, []), (38, [])], [((.loc 1), [])])
  | 13 => ([(1, []), (4, []), (5, []), (6, []), (43, [])], [((.loc 1), [])])
  | 14 => ([(1, []), (4, []), (5, []), (6, []), (43, [])], [((.loc 1), [])])
  | 15 => ([(1, []), (4, []), (5, []), (6, []), (45, [])], [((.loc 1), [])])
  | 16 => ([(1, []), (4, []), (5, []), (6, [])], [((.loc 1), [])])
  | 17 => ([(2, []), (3, [])], [])
  | _ => ([], [])
def head1057_0 (e : Edit) (x4 : Int) (x5 : Int) (x6 : Int) : LSt U := (⟨[(1, .ptr (.loc 1) 0), (4, .c (.int .i64 x4)), (5, .c (.int .i64 x5)), (6, .c (.int .i64 x6))], [((.loc 1), [.int .i64 (Edit.kind e), .int .i64 (Tree.kind (Edit.old e)), .slice (U := U) .u64 (Tree.words (Edit.old e)) .unk, .slice (U := U) .tree (Tree.kids (Edit.old e)) .unk, .int .i64 (Tree.kind (Edit.new e)), .slice (U := U) .u64 (Tree.words (Edit.new e)) .unk, .slice (U := U) .tree (Tree.kids (Edit.new e)) .unk, .slice (U := U) .wedit (Edit.words e) .unk, .slice (U := U) .kid (Edit.kids e) .unk, .int .i64 (Edit.list e), .slice (U := U) .op (Edit.ops e) .unk])], []⟩ : LSt U)
def head1057_1 (e : Edit) (x4 : Int) (x5 : Int) (x6 : Int) (x8_a : Int) : LSt U := (⟨[(1, .ptr (.loc 1) 0), (4, .c (.int .i64 x4)), (5, .c (.int .i64 x5)), (6, .c (.int .i64 x6)), (7, .ptr (.loc 7) 0), (8, .c (.int .i64 x8_a)), (29, .c (.bool (((OpOf.kind (List.getD (Edit.ops e) (Int.toNat x6) Op.nil)) : Int) == 3)))], [((.loc 1), [.int .i64 (Edit.kind e), .int .i64 (Tree.kind (Edit.old e)), .slice (U := U) .u64 (Tree.words (Edit.old e)) .unk, .slice (U := U) .tree (Tree.kids (Edit.old e)) .unk, .int .i64 (Tree.kind (Edit.new e)), .slice (U := U) .u64 (Tree.words (Edit.new e)) .unk, .slice (U := U) .tree (Tree.kids (Edit.new e)) .unk, .slice (U := U) .wedit (Edit.words e) .unk, .slice (U := U) .kid (Edit.kids e) .unk, .int .i64 (Edit.list e), .slice (U := U) .op (Edit.ops e) .unk]), ((.loc 7), [.int .i64 (OpOf.kind (List.getD (Edit.ops e) (Int.toNat x6) Op.nil)), .int .i64 (OpOf.n (List.getD (Edit.ops e) (Int.toNat x6) Op.nil)), .slice (U := U) .tree (OpOf.l (List.getD (Edit.ops e) (Int.toNat x6) Op.nil)) .unk, .int .i64 (Edit.kind (OpOf.e (List.getD (Edit.ops e) (Int.toNat x6) Op.nil))), .int .i64 (Tree.kind (Edit.old (OpOf.e (List.getD (Edit.ops e) (Int.toNat x6) Op.nil)))), .slice (U := U) .u64 (Tree.words (Edit.old (OpOf.e (List.getD (Edit.ops e) (Int.toNat x6) Op.nil)))) .unk, .slice (U := U) .tree (Tree.kids (Edit.old (OpOf.e (List.getD (Edit.ops e) (Int.toNat x6) Op.nil)))) .unk, .int .i64 (Tree.kind (Edit.new (OpOf.e (List.getD (Edit.ops e) (Int.toNat x6) Op.nil)))), .slice (U := U) .u64 (Tree.words (Edit.new (OpOf.e (List.getD (Edit.ops e) (Int.toNat x6) Op.nil)))) .unk, .slice (U := U) .tree (Tree.kids (Edit.new (OpOf.e (List.getD (Edit.ops e) (Int.toNat x6) Op.nil)))) .unk, .slice (U := U) .wedit (Edit.words (OpOf.e (List.getD (Edit.ops e) (Int.toNat x6) Op.nil))) .unk, .slice (U := U) .kid (Edit.kids (OpOf.e (List.getD (Edit.ops e) (Int.toNat x6) Op.nil))) .unk, .int .i64 (Edit.list (OpOf.e (List.getD (Edit.ops e) (Int.toNat x6) Op.nil))), .slice (U := U) .op (Edit.ops (OpOf.e (List.getD (Edit.ops e) (Int.toNat x6) Op.nil))) .unk])], []⟩ : LSt U)
def head1057_2 (e : Edit) (x5 : Int) (x6 : Int) (x8_a : Int) (x4_b : Int) : LSt U := (⟨[(1, .ptr (.loc 1) 0), (4, .c (.int .i64 x4_b)), (5, .c (.int .i64 x5)), (6, .c (.int .i64 x6)), (7, .ptr (.loc 7) 0), (8, .c (.int .i64 x8_a)), (32, .c (.bool (((OpOf.kind (List.getD (Edit.ops e) (Int.toNat x6) Op.nil)) : Int) != 2)))], [((.loc 1), [.int .i64 (Edit.kind e), .int .i64 (Tree.kind (Edit.old e)), .slice (U := U) .u64 (Tree.words (Edit.old e)) .unk, .slice (U := U) .tree (Tree.kids (Edit.old e)) .unk, .int .i64 (Tree.kind (Edit.new e)), .slice (U := U) .u64 (Tree.words (Edit.new e)) .unk, .slice (U := U) .tree (Tree.kids (Edit.new e)) .unk, .slice (U := U) .wedit (Edit.words e) .unk, .slice (U := U) .kid (Edit.kids e) .unk, .int .i64 (Edit.list e), .slice (U := U) .op (Edit.ops e) .unk]), ((.loc 7), [.int .i64 (OpOf.kind (List.getD (Edit.ops e) (Int.toNat x6) Op.nil)), .int .i64 (OpOf.n (List.getD (Edit.ops e) (Int.toNat x6) Op.nil)), .slice (U := U) .tree (OpOf.l (List.getD (Edit.ops e) (Int.toNat x6) Op.nil)) .unk, .int .i64 (Edit.kind (OpOf.e (List.getD (Edit.ops e) (Int.toNat x6) Op.nil))), .int .i64 (Tree.kind (Edit.old (OpOf.e (List.getD (Edit.ops e) (Int.toNat x6) Op.nil)))), .slice (U := U) .u64 (Tree.words (Edit.old (OpOf.e (List.getD (Edit.ops e) (Int.toNat x6) Op.nil)))) .unk, .slice (U := U) .tree (Tree.kids (Edit.old (OpOf.e (List.getD (Edit.ops e) (Int.toNat x6) Op.nil)))) .unk, .int .i64 (Tree.kind (Edit.new (OpOf.e (List.getD (Edit.ops e) (Int.toNat x6) Op.nil)))), .slice (U := U) .u64 (Tree.words (Edit.new (OpOf.e (List.getD (Edit.ops e) (Int.toNat x6) Op.nil)))) .unk, .slice (U := U) .tree (Tree.kids (Edit.new (OpOf.e (List.getD (Edit.ops e) (Int.toNat x6) Op.nil)))) .unk, .slice (U := U) .wedit (Edit.words (OpOf.e (List.getD (Edit.ops e) (Int.toNat x6) Op.nil))) .unk, .slice (U := U) .kid (Edit.kids (OpOf.e (List.getD (Edit.ops e) (Int.toNat x6) Op.nil))) .unk, .int .i64 (Edit.list (OpOf.e (List.getD (Edit.ops e) (Int.toNat x6) Op.nil))), .slice (U := U) .op (Edit.ops (OpOf.e (List.getD (Edit.ops e) (Int.toNat x6) Op.nil))) .unk])], []⟩ : LSt U)
def head1057_3 (e : Edit) (x6 : Int) (x8_a : Int) (x4_b : Int) (x5_c : Int) : LSt U := (⟨[(1, .ptr (.loc 1) 0), (4, .c (.int .i64 x4_b)), (5, .c (.int .i64 x5_c)), (6, .c (.int .i64 x6)), (8, .c (.int .i64 x8_a)), (38, .c (.bool (((OpOf.kind (List.getD (Edit.ops e) (Int.toNat x6) Op.nil)) : Int) != 1)))], [((.loc 1), [.int .i64 (Edit.kind e), .int .i64 (Tree.kind (Edit.old e)), .slice (U := U) .u64 (Tree.words (Edit.old e)) .unk, .slice (U := U) .tree (Tree.kids (Edit.old e)) .unk, .int .i64 (Tree.kind (Edit.new e)), .slice (U := U) .u64 (Tree.words (Edit.new e)) .unk, .slice (U := U) .tree (Tree.kids (Edit.new e)) .unk, .slice (U := U) .wedit (Edit.words e) .unk, .slice (U := U) .kid (Edit.kids e) .unk, .int .i64 (Edit.list e), .slice (U := U) .op (Edit.ops e) .unk])], []⟩ : LSt U)
def head1057_4 (e : Edit) (x6 : Int) (x4_b : Int) (x5_c : Int) (x4_d : Int) : LSt U := (⟨[(1, .ptr (.loc 1) 0), (4, .c (.int .i64 x4_d)), (5, .c (.int .i64 x5_c)), (6, .c (.int .i64 x6)), (43, .c (.bool (decide ((1048576 : Int) < x4_b))))], [((.loc 1), [.int .i64 (Edit.kind e), .int .i64 (Tree.kind (Edit.old e)), .slice (U := U) .u64 (Tree.words (Edit.old e)) .unk, .slice (U := U) .tree (Tree.kids (Edit.old e)) .unk, .int .i64 (Tree.kind (Edit.new e)), .slice (U := U) .u64 (Tree.words (Edit.new e)) .unk, .slice (U := U) .tree (Tree.kids (Edit.new e)) .unk, .slice (U := U) .wedit (Edit.words e) .unk, .slice (U := U) .kid (Edit.kids e) .unk, .int .i64 (Edit.list e), .slice (U := U) .op (Edit.ops e) .unk])], []⟩ : LSt U)
abbrev W1057 (e : Edit) (Q : AExit → LSt U → Prop) : Prop := awp cfg (knowW know1057) (drawOk cfg (knowW know1057)) Try.f57.ntmps lv1057 (cd Try.f57 []) (⟨[(0, .agg [.int .i64 (Edit.kind e), .int .i64 (Tree.kind (Edit.old e)), .slice (U := U) .u64 (Tree.words (Edit.old e)) .unk, .slice (U := U) .tree (Tree.kids (Edit.old e)) .unk, .int .i64 (Tree.kind (Edit.new e)), .slice (U := U) .u64 (Tree.words (Edit.new e)) .unk, .slice (U := U) .tree (Tree.kids (Edit.new e)) .unk, .slice (U := U) .wedit (Edit.words e) .unk, .slice (U := U) .kid (Edit.kids e) .unk, .int .i64 (Edit.list e), .slice (U := U) .op (Edit.ops e) .unk])], [], []⟩ : LSt U) Q
/-- the body -/
theorem vc1057 (e : Edit) (Q : AExit → LSt U → Prop) (h : LoopWp (awp cfg (knowW know1057) (drawOk cfg (knowW know1057)) Try.f57.ntmps lv1057 (cd Try.f57 [1, 1, 0, 1, 0, 0])) (head1057_0 e 0 0 0) (AExit.inBlock 0 (seqK cfg (knowW know1057) (drawOk cfg (knowW know1057)) Try.f57.ntmps lv1057 (cd Try.f57 [1, 1, 1]) Q))) :
    W1057 e Q := by
  have e_ : (awp cfg (knowW know1057) (drawOk cfg (knowW know1057)) Try.f57.ntmps lv1057 (cd Try.f57 []) (⟨[(0, .agg [.int .i64 (Edit.kind e), .int .i64 (Tree.kind (Edit.old e)), .slice (U := U) .u64 (Tree.words (Edit.old e)) .unk, .slice (U := U) .tree (Tree.kids (Edit.old e)) .unk, .int .i64 (Tree.kind (Edit.new e)), .slice (U := U) .u64 (Tree.words (Edit.new e)) .unk, .slice (U := U) .tree (Tree.kids (Edit.new e)) .unk, .slice (U := U) .wedit (Edit.words e) .unk, .slice (U := U) .kid (Edit.kids e) .unk, .int .i64 (Edit.list e), .slice (U := U) .op (Edit.ops e) .unk])], [], []⟩ : LSt U) Q) = ((((LoopWp (awp cfg (knowW know1057) (drawOk cfg (knowW know1057)) Try.f57.ntmps lv1057 (cd Try.f57 [1, 1, 0, 1, 0, 0])) (head1057_0 e 0 0 0) (AExit.inBlock 0 (seqK cfg (knowW know1057) (drawOk cfg (knowW know1057)) Try.f57.ntmps lv1057 (cd Try.f57 [1, 1, 1]) Q)))))) := by kernel_rfl
  exact e_.mpr h
abbrev W1057_l0 (e : Edit) (x4 : Int) (x5 : Int) (x6 : Int) (N0 : LSt U → Prop) (Q : AExit → LSt U → Prop) : Prop := awp cfg (knowW know1057) (drawOk cfg (knowW know1057)) Try.f57.ntmps lv1057 (cd Try.f57 [1, 1, 0, 1, 0, 0]) (head1057_0 e x4 x5 x6) (AExit.then N0 (AExit.inBlock 0 (seqK cfg (knowW know1057) (drawOk cfg (knowW know1057)) Try.f57.ntmps lv1057 (cd Try.f57 [1, 1, 1]) Q)))
/-- the loop at [1, 1, 0, 1, 0] -/
theorem vc1057_l0 (e : Edit) (x4 : Int) (x5 : Int) (x6 : Int) (N0 : LSt U → Prop) (Q : AExit → LSt U → Prop) (h : ((decide ((x6 : Int) < ((Edit.ops e).length : Int))) = true → ((0 : Int) ≤ x6 ∧ x6 < ((Edit.ops e).length : Int)) ∧ (((((OpOf.kind (List.getD (Edit.ops e) (Int.toNat x6) Op.nil)) : Int) == 3) = true → awp cfg (knowW know1057) (drawOk cfg (knowW know1057)) Try.f57.ntmps lv1057 (cd Try.f57 [1, 1, 0, 1, 0, 0, 1, 0, 0, 1, 1, 1]) (head1057_1 e x4 x5 x6 1) (AExit.inBlock 1 (seqK cfg (knowW know1057) (drawOk cfg (knowW know1057)) Try.f57.ntmps lv1057 (cd Try.f57 [1, 1, 0, 1, 0, 0, 1, 1]) (AExit.then N0 (AExit.inBlock 0 (seqK cfg (knowW know1057) (drawOk cfg (knowW know1057)) Try.f57.ntmps lv1057 (cd Try.f57 [1, 1, 1]) Q)))))) ∧ ((((OpOf.kind (List.getD (Edit.ops e) (Int.toNat x6) Op.nil)) : Int) == 3) = false → awp cfg (knowW know1057) (drawOk cfg (knowW know1057)) Try.f57.ntmps lv1057 (cd Try.f57 [1, 1, 0, 1, 0, 0, 1, 0, 0, 1, 1, 1]) (head1057_1 e x4 x5 x6 (IntKind.wrap .i64 (((OpOf.n (List.getD (Edit.ops e) (Int.toNat x6) Op.nil)) : Int) + ((OpOf.l (List.getD (Edit.ops e) (Int.toNat x6) Op.nil)).length : Int)))) (AExit.inBlock 1 (seqK cfg (knowW know1057) (drawOk cfg (knowW know1057)) Try.f57.ntmps lv1057 (cd Try.f57 [1, 1, 0, 1, 0, 0, 1, 1]) (AExit.then N0 (AExit.inBlock 0 (seqK cfg (knowW know1057) (drawOk cfg (knowW know1057)) Try.f57.ntmps lv1057 (cd Try.f57 [1, 1, 1]) Q)))))))) ∧ ((decide ((x6 : Int) < ((Edit.ops e).length : Int))) = false → Q .ret (⟨[(2, .c (.int .i64 x4)), (3, .c (.int .i64 x5))], [], []⟩ : LSt U))) :
    W1057_l0 e x4 x5 x6 N0 Q := by
  have e_ : (awp cfg (knowW know1057) (drawOk cfg (knowW know1057)) Try.f57.ntmps lv1057 (cd Try.f57 [1, 1, 0, 1, 0, 0]) (head1057_0 e x4 x5 x6) (AExit.then N0 (AExit.inBlock 0 (seqK cfg (knowW know1057) (drawOk cfg (knowW know1057)) Try.f57.ntmps lv1057 (cd Try.f57 [1, 1, 1]) Q)))) = ((((decide ((x6 : Int) < ((Edit.ops e).length : Int))) = true → ((0 : Int) ≤ x6 ∧ x6 < ((Edit.ops e).length : Int)) ∧ (((((((OpOf.kind (List.getD (Edit.ops e) (Int.toNat x6) Op.nil)) : Int) == 3) = true → (awp cfg (knowW know1057) (drawOk cfg (knowW know1057)) Try.f57.ntmps lv1057 (cd Try.f57 [1, 1, 0, 1, 0, 0, 1, 0, 0, 1, 1, 1]) (head1057_1 e x4 x5 x6 1) (AExit.inBlock 1 (seqK cfg (knowW know1057) (drawOk cfg (knowW know1057)) Try.f57.ntmps lv1057 (cd Try.f57 [1, 1, 0, 1, 0, 0, 1, 1]) (AExit.then N0 (AExit.inBlock 0 (seqK cfg (knowW know1057) (drawOk cfg (knowW know1057)) Try.f57.ntmps lv1057 (cd Try.f57 [1, 1, 1]) Q))))))) ∧ ((((OpOf.kind (List.getD (Edit.ops e) (Int.toNat x6) Op.nil)) : Int) == 3) = false → awp cfg (knowW know1057) (drawOk cfg (knowW know1057)) Try.f57.ntmps lv1057 (cd Try.f57 [1, 1, 0, 1, 0, 0, 1, 0, 0, 1, 1, 1]) (head1057_1 e x4 x5 x6 (IntKind.wrap .i64 (((OpOf.n (List.getD (Edit.ops e) (Int.toNat x6) Op.nil)) : Int) + ((OpOf.l (List.getD (Edit.ops e) (Int.toNat x6) Op.nil)).length : Int)))) (AExit.inBlock 1 (seqK cfg (knowW know1057) (drawOk cfg (knowW know1057)) Try.f57.ntmps lv1057 (cd Try.f57 [1, 1, 0, 1, 0, 0, 1, 1]) (AExit.then N0 (AExit.inBlock 0 (seqK cfg (knowW know1057) (drawOk cfg (knowW know1057)) Try.f57.ntmps lv1057 (cd Try.f57 [1, 1, 1]) Q)))))))))) ∧ ((decide ((x6 : Int) < ((Edit.ops e).length : Int))) = false → (Q .ret (⟨[(2, .c (.int .i64 x4)), (3, .c (.int .i64 x5))], [], []⟩ : LSt U))))) := by kernel_rfl
  exact e_.mpr ⟨fun c_5 => ⟨(h.1 c_5).1, ⟨fun c_6 => ((h.1 c_5).2.1 c_6), fun c_6 => ((h.1 c_5).2.2 c_6)⟩⟩, fun c_5 => (h.2 c_5)⟩
abbrev W1057_c1 (e : Edit) (x4 : Int) (x5 : Int) (x6 : Int) (x8_a : Int) (N0 : LSt U → Prop) (Q : AExit → LSt U → Prop) : Prop := awp cfg (knowW know1057) (drawOk cfg (knowW know1057)) Try.f57.ntmps lv1057 (cd Try.f57 [1, 1, 0, 1, 0, 0, 1, 0, 0, 1, 1, 1]) (head1057_1 e x4 x5 x6 x8_a) (AExit.inBlock 1 (seqK cfg (knowW know1057) (drawOk cfg (knowW know1057)) Try.f57.ntmps lv1057 (cd Try.f57 [1, 1, 0, 1, 0, 0, 1, 1]) (AExit.then N0 (AExit.inBlock 0 (seqK cfg (knowW know1057) (drawOk cfg (knowW know1057)) Try.f57.ntmps lv1057 (cd Try.f57 [1, 1, 1]) Q)))))
/-- what follows at [1, 1, 0, 1, 0, 0, 1, 0, 0, 1, 1, 1] -/
theorem vc1057_c1 (e : Edit) (x4 : Int) (x5 : Int) (x6 : Int) (x8_a : Int) (N0 : LSt U → Prop) (Q : AExit → LSt U → Prop) (h : ((((OpOf.kind (List.getD (Edit.ops e) (Int.toNat x6) Op.nil)) : Int) != 2) = true → awp cfg (knowW know1057) (drawOk cfg (knowW know1057)) Try.f57.ntmps lv1057 (cd Try.f57 [1, 1, 0, 1, 0, 0, 1, 0, 0, 1, 1, 1, 1]) (head1057_2 e x5 x6 x8_a (IntKind.wrap .i64 ((x4 : Int) + x8_a))) (AExit.inBlock 1 (seqK cfg (knowW know1057) (drawOk cfg (knowW know1057)) Try.f57.ntmps lv1057 (cd Try.f57 [1, 1, 0, 1, 0, 0, 1, 1]) (AExit.then N0 (AExit.inBlock 0 (seqK cfg (knowW know1057) (drawOk cfg (knowW know1057)) Try.f57.ntmps lv1057 (cd Try.f57 [1, 1, 1]) Q)))))) ∧ ((((OpOf.kind (List.getD (Edit.ops e) (Int.toNat x6) Op.nil)) : Int) != 2) = false → awp cfg (knowW know1057) (drawOk cfg (knowW know1057)) Try.f57.ntmps lv1057 (cd Try.f57 [1, 1, 0, 1, 0, 0, 1, 0, 0, 1, 1, 1, 1]) (head1057_2 e x5 x6 x8_a x4) (AExit.inBlock 1 (seqK cfg (knowW know1057) (drawOk cfg (knowW know1057)) Try.f57.ntmps lv1057 (cd Try.f57 [1, 1, 0, 1, 0, 0, 1, 1]) (AExit.then N0 (AExit.inBlock 0 (seqK cfg (knowW know1057) (drawOk cfg (knowW know1057)) Try.f57.ntmps lv1057 (cd Try.f57 [1, 1, 1]) Q))))))) :
    W1057_c1 e x4 x5 x6 x8_a N0 Q := by
  have e_ : (awp cfg (knowW know1057) (drawOk cfg (knowW know1057)) Try.f57.ntmps lv1057 (cd Try.f57 [1, 1, 0, 1, 0, 0, 1, 0, 0, 1, 1, 1]) (head1057_1 e x4 x5 x6 x8_a) (AExit.inBlock 1 (seqK cfg (knowW know1057) (drawOk cfg (knowW know1057)) Try.f57.ntmps lv1057 (cd Try.f57 [1, 1, 0, 1, 0, 0, 1, 1]) (AExit.then N0 (AExit.inBlock 0 (seqK cfg (knowW know1057) (drawOk cfg (knowW know1057)) Try.f57.ntmps lv1057 (cd Try.f57 [1, 1, 1]) Q)))))) = ((((((OpOf.kind (List.getD (Edit.ops e) (Int.toNat x6) Op.nil)) : Int) != 2) = true → (awp cfg (knowW know1057) (drawOk cfg (knowW know1057)) Try.f57.ntmps lv1057 (cd Try.f57 [1, 1, 0, 1, 0, 0, 1, 0, 0, 1, 1, 1, 1]) (head1057_2 e x5 x6 x8_a (IntKind.wrap .i64 ((x4 : Int) + x8_a))) (AExit.inBlock 1 (seqK cfg (knowW know1057) (drawOk cfg (knowW know1057)) Try.f57.ntmps lv1057 (cd Try.f57 [1, 1, 0, 1, 0, 0, 1, 1]) (AExit.then N0 (AExit.inBlock 0 (seqK cfg (knowW know1057) (drawOk cfg (knowW know1057)) Try.f57.ntmps lv1057 (cd Try.f57 [1, 1, 1]) Q))))))) ∧ ((((OpOf.kind (List.getD (Edit.ops e) (Int.toNat x6) Op.nil)) : Int) != 2) = false → awp cfg (knowW know1057) (drawOk cfg (knowW know1057)) Try.f57.ntmps lv1057 (cd Try.f57 [1, 1, 0, 1, 0, 0, 1, 0, 0, 1, 1, 1, 1]) (head1057_2 e x5 x6 x8_a x4) (AExit.inBlock 1 (seqK cfg (knowW know1057) (drawOk cfg (knowW know1057)) Try.f57.ntmps lv1057 (cd Try.f57 [1, 1, 0, 1, 0, 0, 1, 1]) (AExit.then N0 (AExit.inBlock 0 (seqK cfg (knowW know1057) (drawOk cfg (knowW know1057)) Try.f57.ntmps lv1057 (cd Try.f57 [1, 1, 1]) Q)))))))) := by kernel_rfl
  exact e_.mpr ⟨fun c_7 => (h.1 c_7), fun c_7 => (h.2 c_7)⟩
abbrev W1057_c2 (e : Edit) (x5 : Int) (x6 : Int) (x8_a : Int) (x4_b : Int) (N0 : LSt U → Prop) (Q : AExit → LSt U → Prop) : Prop := awp cfg (knowW know1057) (drawOk cfg (knowW know1057)) Try.f57.ntmps lv1057 (cd Try.f57 [1, 1, 0, 1, 0, 0, 1, 0, 0, 1, 1, 1, 1]) (head1057_2 e x5 x6 x8_a x4_b) (AExit.inBlock 1 (seqK cfg (knowW know1057) (drawOk cfg (knowW know1057)) Try.f57.ntmps lv1057 (cd Try.f57 [1, 1, 0, 1, 0, 0, 1, 1]) (AExit.then N0 (AExit.inBlock 0 (seqK cfg (knowW know1057) (drawOk cfg (knowW know1057)) Try.f57.ntmps lv1057 (cd Try.f57 [1, 1, 1]) Q)))))
/-- what follows at [1, 1, 0, 1, 0, 0, 1, 0, 0, 1, 1, 1, 1] -/
theorem vc1057_c2 (e : Edit) (x5 : Int) (x6 : Int) (x8_a : Int) (x4_b : Int) (N0 : LSt U → Prop) (Q : AExit → LSt U → Prop) (h : ((((OpOf.kind (List.getD (Edit.ops e) (Int.toNat x6) Op.nil)) : Int) != 1) = true → awp cfg (knowW know1057) (drawOk cfg (knowW know1057)) Try.f57.ntmps lv1057 (cd Try.f57 [1, 1, 0, 1, 0, 0, 1, 0, 0, 1, 1, 1, 1, 1]) (head1057_3 e x6 x8_a x4_b (IntKind.wrap .i64 ((x5 : Int) + x8_a))) (AExit.inBlock 1 (seqK cfg (knowW know1057) (drawOk cfg (knowW know1057)) Try.f57.ntmps lv1057 (cd Try.f57 [1, 1, 0, 1, 0, 0, 1, 1]) (AExit.then N0 (AExit.inBlock 0 (seqK cfg (knowW know1057) (drawOk cfg (knowW know1057)) Try.f57.ntmps lv1057 (cd Try.f57 [1, 1, 1]) Q)))))) ∧ ((((OpOf.kind (List.getD (Edit.ops e) (Int.toNat x6) Op.nil)) : Int) != 1) = false → awp cfg (knowW know1057) (drawOk cfg (knowW know1057)) Try.f57.ntmps lv1057 (cd Try.f57 [1, 1, 0, 1, 0, 0, 1, 0, 0, 1, 1, 1, 1, 1]) (head1057_3 e x6 x8_a x4_b x5) (AExit.inBlock 1 (seqK cfg (knowW know1057) (drawOk cfg (knowW know1057)) Try.f57.ntmps lv1057 (cd Try.f57 [1, 1, 0, 1, 0, 0, 1, 1]) (AExit.then N0 (AExit.inBlock 0 (seqK cfg (knowW know1057) (drawOk cfg (knowW know1057)) Try.f57.ntmps lv1057 (cd Try.f57 [1, 1, 1]) Q))))))) :
    W1057_c2 e x5 x6 x8_a x4_b N0 Q := by
  have e_ : (awp cfg (knowW know1057) (drawOk cfg (knowW know1057)) Try.f57.ntmps lv1057 (cd Try.f57 [1, 1, 0, 1, 0, 0, 1, 0, 0, 1, 1, 1, 1]) (head1057_2 e x5 x6 x8_a x4_b) (AExit.inBlock 1 (seqK cfg (knowW know1057) (drawOk cfg (knowW know1057)) Try.f57.ntmps lv1057 (cd Try.f57 [1, 1, 0, 1, 0, 0, 1, 1]) (AExit.then N0 (AExit.inBlock 0 (seqK cfg (knowW know1057) (drawOk cfg (knowW know1057)) Try.f57.ntmps lv1057 (cd Try.f57 [1, 1, 1]) Q)))))) = ((((((OpOf.kind (List.getD (Edit.ops e) (Int.toNat x6) Op.nil)) : Int) != 1) = true → (awp cfg (knowW know1057) (drawOk cfg (knowW know1057)) Try.f57.ntmps lv1057 (cd Try.f57 [1, 1, 0, 1, 0, 0, 1, 0, 0, 1, 1, 1, 1, 1]) (head1057_3 e x6 x8_a x4_b (IntKind.wrap .i64 ((x5 : Int) + x8_a))) (AExit.inBlock 1 (seqK cfg (knowW know1057) (drawOk cfg (knowW know1057)) Try.f57.ntmps lv1057 (cd Try.f57 [1, 1, 0, 1, 0, 0, 1, 1]) (AExit.then N0 (AExit.inBlock 0 (seqK cfg (knowW know1057) (drawOk cfg (knowW know1057)) Try.f57.ntmps lv1057 (cd Try.f57 [1, 1, 1]) Q))))))) ∧ ((((OpOf.kind (List.getD (Edit.ops e) (Int.toNat x6) Op.nil)) : Int) != 1) = false → awp cfg (knowW know1057) (drawOk cfg (knowW know1057)) Try.f57.ntmps lv1057 (cd Try.f57 [1, 1, 0, 1, 0, 0, 1, 0, 0, 1, 1, 1, 1, 1]) (head1057_3 e x6 x8_a x4_b x5) (AExit.inBlock 1 (seqK cfg (knowW know1057) (drawOk cfg (knowW know1057)) Try.f57.ntmps lv1057 (cd Try.f57 [1, 1, 0, 1, 0, 0, 1, 1]) (AExit.then N0 (AExit.inBlock 0 (seqK cfg (knowW know1057) (drawOk cfg (knowW know1057)) Try.f57.ntmps lv1057 (cd Try.f57 [1, 1, 1]) Q)))))))) := by kernel_rfl
  exact e_.mpr ⟨fun c_8 => (h.1 c_8), fun c_8 => (h.2 c_8)⟩
abbrev W1057_c3 (e : Edit) (x6 : Int) (x8_a : Int) (x4_b : Int) (x5_c : Int) (N0 : LSt U → Prop) (Q : AExit → LSt U → Prop) : Prop := awp cfg (knowW know1057) (drawOk cfg (knowW know1057)) Try.f57.ntmps lv1057 (cd Try.f57 [1, 1, 0, 1, 0, 0, 1, 0, 0, 1, 1, 1, 1, 1]) (head1057_3 e x6 x8_a x4_b x5_c) (AExit.inBlock 1 (seqK cfg (knowW know1057) (drawOk cfg (knowW know1057)) Try.f57.ntmps lv1057 (cd Try.f57 [1, 1, 0, 1, 0, 0, 1, 1]) (AExit.then N0 (AExit.inBlock 0 (seqK cfg (knowW know1057) (drawOk cfg (knowW know1057)) Try.f57.ntmps lv1057 (cd Try.f57 [1, 1, 1]) Q)))))
/-- what follows at [1, 1, 0, 1, 0, 0, 1, 0, 0, 1, 1, 1, 1, 1] -/
theorem vc1057_c3 (e : Edit) (x6 : Int) (x8_a : Int) (x4_b : Int) (x5_c : Int) (N0 : LSt U → Prop) (Q : AExit → LSt U → Prop) (h : ((decide ((1048576 : Int) < x4_b)) = true → awp cfg (knowW know1057) (drawOk cfg (knowW know1057)) Try.f57.ntmps lv1057 (cd Try.f57 [1, 1, 0, 1, 0, 0, 1, 0, 0, 1, 1, 1, 1, 1, 1]) (head1057_4 e x6 x4_b x5_c 1048576) (AExit.inBlock 1 (seqK cfg (knowW know1057) (drawOk cfg (knowW know1057)) Try.f57.ntmps lv1057 (cd Try.f57 [1, 1, 0, 1, 0, 0, 1, 1]) (AExit.then N0 (AExit.inBlock 0 (seqK cfg (knowW know1057) (drawOk cfg (knowW know1057)) Try.f57.ntmps lv1057 (cd Try.f57 [1, 1, 1]) Q)))))) ∧ ((decide ((1048576 : Int) < x4_b)) = false → awp cfg (knowW know1057) (drawOk cfg (knowW know1057)) Try.f57.ntmps lv1057 (cd Try.f57 [1, 1, 0, 1, 0, 0, 1, 0, 0, 1, 1, 1, 1, 1, 1]) (head1057_4 e x6 x4_b x5_c x4_b) (AExit.inBlock 1 (seqK cfg (knowW know1057) (drawOk cfg (knowW know1057)) Try.f57.ntmps lv1057 (cd Try.f57 [1, 1, 0, 1, 0, 0, 1, 1]) (AExit.then N0 (AExit.inBlock 0 (seqK cfg (knowW know1057) (drawOk cfg (knowW know1057)) Try.f57.ntmps lv1057 (cd Try.f57 [1, 1, 1]) Q))))))) :
    W1057_c3 e x6 x8_a x4_b x5_c N0 Q := by
  have e_ : (awp cfg (knowW know1057) (drawOk cfg (knowW know1057)) Try.f57.ntmps lv1057 (cd Try.f57 [1, 1, 0, 1, 0, 0, 1, 0, 0, 1, 1, 1, 1, 1]) (head1057_3 e x6 x8_a x4_b x5_c) (AExit.inBlock 1 (seqK cfg (knowW know1057) (drawOk cfg (knowW know1057)) Try.f57.ntmps lv1057 (cd Try.f57 [1, 1, 0, 1, 0, 0, 1, 1]) (AExit.then N0 (AExit.inBlock 0 (seqK cfg (knowW know1057) (drawOk cfg (knowW know1057)) Try.f57.ntmps lv1057 (cd Try.f57 [1, 1, 1]) Q)))))) = ((((decide ((1048576 : Int) < x4_b)) = true → (awp cfg (knowW know1057) (drawOk cfg (knowW know1057)) Try.f57.ntmps lv1057 (cd Try.f57 [1, 1, 0, 1, 0, 0, 1, 0, 0, 1, 1, 1, 1, 1, 1]) (head1057_4 e x6 x4_b x5_c 1048576) (AExit.inBlock 1 (seqK cfg (knowW know1057) (drawOk cfg (knowW know1057)) Try.f57.ntmps lv1057 (cd Try.f57 [1, 1, 0, 1, 0, 0, 1, 1]) (AExit.then N0 (AExit.inBlock 0 (seqK cfg (knowW know1057) (drawOk cfg (knowW know1057)) Try.f57.ntmps lv1057 (cd Try.f57 [1, 1, 1]) Q))))))) ∧ ((decide ((1048576 : Int) < x4_b)) = false → awp cfg (knowW know1057) (drawOk cfg (knowW know1057)) Try.f57.ntmps lv1057 (cd Try.f57 [1, 1, 0, 1, 0, 0, 1, 0, 0, 1, 1, 1, 1, 1, 1]) (head1057_4 e x6 x4_b x5_c x4_b) (AExit.inBlock 1 (seqK cfg (knowW know1057) (drawOk cfg (knowW know1057)) Try.f57.ntmps lv1057 (cd Try.f57 [1, 1, 0, 1, 0, 0, 1, 1]) (AExit.then N0 (AExit.inBlock 0 (seqK cfg (knowW know1057) (drawOk cfg (knowW know1057)) Try.f57.ntmps lv1057 (cd Try.f57 [1, 1, 1]) Q)))))))) := by kernel_rfl
  exact e_.mpr ⟨fun c_9 => (h.1 c_9), fun c_9 => (h.2 c_9)⟩
abbrev W1057_c4 (e : Edit) (x6 : Int) (x4_b : Int) (x5_c : Int) (x4_d : Int) (N0 : LSt U → Prop) (Q : AExit → LSt U → Prop) : Prop := awp cfg (knowW know1057) (drawOk cfg (knowW know1057)) Try.f57.ntmps lv1057 (cd Try.f57 [1, 1, 0, 1, 0, 0, 1, 0, 0, 1, 1, 1, 1, 1, 1]) (head1057_4 e x6 x4_b x5_c x4_d) (AExit.inBlock 1 (seqK cfg (knowW know1057) (drawOk cfg (knowW know1057)) Try.f57.ntmps lv1057 (cd Try.f57 [1, 1, 0, 1, 0, 0, 1, 1]) (AExit.then N0 (AExit.inBlock 0 (seqK cfg (knowW know1057) (drawOk cfg (knowW know1057)) Try.f57.ntmps lv1057 (cd Try.f57 [1, 1, 1]) Q)))))
/-- what follows at [1, 1, 0, 1, 0, 0, 1, 0, 0, 1, 1, 1, 1, 1, 1] -/
theorem vc1057_c4 (e : Edit) (x6 : Int) (x4_b : Int) (x5_c : Int) (x4_d : Int) (N0 : LSt U → Prop) (Q : AExit → LSt U → Prop) (h : ((decide ((1048576 : Int) < x5_c)) = true → N0 (head1057_0 e x4_d 1048576 (IntKind.wrap .i64 ((x6 : Int) + 1)))) ∧ ((decide ((1048576 : Int) < x5_c)) = false → N0 (head1057_0 e x4_d x5_c (IntKind.wrap .i64 ((x6 : Int) + 1))))) :
    W1057_c4 e x6 x4_b x5_c x4_d N0 Q := by
  have e_ : (awp cfg (knowW know1057) (drawOk cfg (knowW know1057)) Try.f57.ntmps lv1057 (cd Try.f57 [1, 1, 0, 1, 0, 0, 1, 0, 0, 1, 1, 1, 1, 1, 1]) (head1057_4 e x6 x4_b x5_c x4_d) (AExit.inBlock 1 (seqK cfg (knowW know1057) (drawOk cfg (knowW know1057)) Try.f57.ntmps lv1057 (cd Try.f57 [1, 1, 0, 1, 0, 0, 1, 1]) (AExit.then N0 (AExit.inBlock 0 (seqK cfg (knowW know1057) (drawOk cfg (knowW know1057)) Try.f57.ntmps lv1057 (cd Try.f57 [1, 1, 1]) Q)))))) = ((((decide ((1048576 : Int) < x5_c)) = true → ((N0 (head1057_0 e x4_d 1048576 (IntKind.wrap .i64 ((x6 : Int) + 1)))))) ∧ ((decide ((1048576 : Int) < x5_c)) = false → (N0 (head1057_0 e x4_d x5_c (IntKind.wrap .i64 ((x6 : Int) + 1))))))) := by kernel_rfl
  exact e_.mpr ⟨fun c_10 => (h.1 c_10), fun c_10 => (h.2 c_10)⟩
def Body1057 (e : Edit)  : Prop := awp cfg (knowW (know1057)) (drawOk cfg (knowW (know1057))) Try.f57.ntmps lv1057 (cd Try.f57 []) (entry (args1057.can (e, ())) []) (EndsQ cfg Try.f57.ntmps Try.f57.results.toList (res1057 (e, ())) [])
theorem make1057 (hb : ∀ (e : Edit) (_ : Unit), pre1057 (e, ()) → Body1057 e) : Contract Try.prog cfg 57 spec1057 :=
  contract_flatW (l := []) cfgOk rfl (trivial) lv1057 Try.func57 rfl rfl 1 (fun _ => rfl) (by decide) (fun ⟨e, _⟩ => hb e ())

end Go.AM.Ytlahjnelghpmeaa

namespace Go.AM.Ytlahjnelghpmeaa
open Go.AM Go.Proofs

theorem wr_in {n : Int} (h : InR n) : wr n = n := by
  unfold InR at h
  simp [wr, IntKind.wrap, IntKind.signed, IntKind.bits]
  split <;> omega

theorem capW_le (n : Int) : capW n ≤ 1048576 := by unfold capW; split <;> omega
theorem capW_of {n : Int} (h : n ≤ 1048576) : capW n = n := by unfold capW; rw [if_neg (by omega)]

theorem lenAW_drop {l : List Op} {i : Int} (n : Int) (h0 : 0 ≤ i) (h : i < l.length) : lenAW (l.drop i.toNat) n = lenAW (l.drop (i + 1).toNat) (if (l.getD i.toNat Op.nil).kind = 2 then n else capW (wr (n + opLenW (l.getD i.toNat Op.nil)))) := by
  rw [dropI h0 h Op.nil, lenAW]
theorem lenBW_drop {l : List Op} {i : Int} (n : Int) (h0 : 0 ≤ i) (h : i < l.length) : lenBW (l.drop i.toNat) n = lenBW (l.drop (i + 1).toNat) (if (l.getD i.toNat Op.nil).kind = 1 then n else capW (wr (n + opLenW (l.getD i.toNat Op.nil)))) := by
  rw [dropI h0 h Op.nil, lenBW]

theorem c56 : Contract Try.prog cfg 56 spec56 := by
  refine make56 ?_
  intro e _ hp
  simp only [pre56] at hp
  have h1 := len_massE e
  have h2 := massOs_len e.ops
  refine vc56 _ _ ?_
  refine loop_rule (ι := Int × Int × Int) (fun s => head56_0 e s.1 s.2.1 s.2.2) (fun s => (0 ≤ s.2.2 ∧ s.2.2 ≤ e.ops.length) ∧ lenAW (e.ops.drop s.2.2.toNat) s.1 = lenAW e.ops 0 ∧ lenBW (e.ops.drop s.2.2.toNat) s.2.1 = lenBW e.ops 0) (fun s => ((e.ops.length : Int) - s.2.2).toNat) (0, 0, 0) rfl ⟨⟨by simp, by simp⟩, rfl, rfl⟩ ?_
  rintro ⟨n, m, i⟩ ⟨⟨g1, g2⟩, g3, g4⟩
  dsimp only at g1 g2 g3 g4
  refine vc56_l0 _ _ _ _ _ _ ?_
  (simp only [bif_tl, bif_fr, bif_tlf, bif_frf, Bool.not_eq_true', Bool.not_eq_false', decide_eq_true_eq, decide_eq_false_iff_not, beq_iff_eq, beq_eq_false_iff_ne, bne_iff_ne, ne_eq, bne_eq_false_iff_eq, Bool.or_eq_true, Bool.and_eq_true, Bool.or_eq_false_iff, Bool.and_eq_false_imp])
  refine ⟨fun hi => ⟨⟨g1, hi⟩, ?_⟩, fun hi => ?_⟩
  · rw [lenAW_drop _ g1 hi] at g3
    rw [lenBW_drop _ g1 hi] at g4
    have hk : IntKind.wrap .i64 (i + 1) = i + 1 := wr_in (by unfold InR; omega)
    generalize hy : e.ops.getD i.toNat Op.nil = y at *
    have key : ∀ k : Int, k = opLenW y → ∀ (Q' : AExit → LSt U → Prop), W56_c1 e n m i k (fun s2 => ∃ j : Int × Int × Int, s2 = head56_0 e j.1 j.2.1 j.2.2 ∧ ((0 ≤ j.2.2 ∧ j.2.2 ≤ e.ops.length) ∧ lenAW (e.ops.drop j.2.2.toNat) j.1 = lenAW e.ops 0 ∧ lenBW (e.ops.drop j.2.2.toNat) j.2.1 = lenBW e.ops 0) ∧ ((e.ops.length : Int) - j.2.2).toNat < ((e.ops.length : Int) - i).toNat) Q' := by
      rintro k rfl Q'
      have step2 : ∀ a : Int, a = (if y.kind = 2 then n else capW (wr (n + opLenW y))) → W56_c2 e m i (opLenW y) a (fun s2 => ∃ j : Int × Int × Int, s2 = head56_0 e j.1 j.2.1 j.2.2 ∧ ((0 ≤ j.2.2 ∧ j.2.2 ≤ e.ops.length) ∧ lenAW (e.ops.drop j.2.2.toNat) j.1 = lenAW e.ops 0 ∧ lenBW (e.ops.drop j.2.2.toNat) j.2.1 = lenBW e.ops 0) ∧ ((e.ops.length : Int) - j.2.2).toNat < ((e.ops.length : Int) - i).toNat) Q' := by
        rintro a ha
        refine vc56_c2 _ _ _ _ _ _ _ ?_
        rw [hy, hk]
        (simp only [bif_tl, bif_fr, bif_tlf, bif_frf, Bool.not_eq_true', Bool.not_eq_false', decide_eq_true_eq, decide_eq_false_iff_not, beq_iff_eq, beq_eq_false_iff_ne, bne_iff_ne, ne_eq, bne_eq_false_iff_eq, Bool.or_eq_true, Bool.and_eq_true, Bool.or_eq_false_iff, Bool.and_eq_false_imp])
        rw [← ha] at g3
        refine ⟨fun hb => ⟨(a, _, i + 1), rfl, ⟨⟨by dsimp only; omega, by dsimp only; omega⟩, g3, ?_⟩, by dsimp only; omega⟩, fun hb => ⟨(a, _, i + 1), rfl, ⟨⟨by dsimp only; omega, by dsimp only; omega⟩, g3, ?_⟩, by dsimp only; omega⟩⟩
        · rw [if_neg hb] at g4; exact g4
        · rw [if_pos hb] at g4; exact g4
      refine vc56_c1 _ _ _ _ _ _ _ ?_
      rw [hy]
      (simp only [bif_tl, bif_fr, bif_tlf, bif_frf, Bool.not_eq_true', Bool.not_eq_false', decide_eq_true_eq, decide_eq_false_iff_not, beq_iff_eq, beq_eq_false_iff_ne, bne_iff_ne, ne_eq, bne_eq_false_iff_eq, Bool.or_eq_true, Bool.and_eq_true, Bool.or_eq_false_iff, Bool.and_eq_false_imp])
      exact ⟨fun hb => step2 _ (by rw [if_neg hb]; rfl), fun hb => step2 _ (by rw [if_pos hb])⟩
    exact ⟨fun hb => key _ (by unfold opLenW; rw [if_pos hb]) _, fun hb => key _ (by unfold opLenW; rw [if_neg hb]; rfl) _⟩
  · rw [List.drop_of_length_le (by omega)] at g3 g4
    simp only [lenAW, lenBW] at g3 g4
    rw [g3, g4]
    (repeat' (first | exact trivial | exact rfl | refine And.intro ?_ ?_))

theorem c1057 : Contract Try.prog cfg 57 spec1057 := by
  refine make1057 ?_
  intro e _ hp
  simp only [pre1057] at hp
  have h1 := len_massE e
  have h2 := massOs_len e.ops
  refine vc1057 _ _ ?_
  refine loop_rule (ι := Int × Int × Int) (fun s => head1057_0 e s.1 s.2.1 s.2.2) (fun s => (s.1 ≤ 1048576 ∧ s.2.1 ≤ 1048576) ∧ (0 ≤ s.2.2 ∧ s.2.2 ≤ e.ops.length) ∧ lenAW (e.ops.drop s.2.2.toNat) s.1 = lenAW e.ops 0 ∧ lenBW (e.ops.drop s.2.2.toNat) s.2.1 = lenBW e.ops 0) (fun s => ((e.ops.length : Int) - s.2.2).toNat) (0, 0, 0) rfl ⟨⟨by simp, by simp⟩, ⟨by simp, by simp⟩, rfl, rfl⟩ ?_
  rintro ⟨n, m, i⟩ ⟨⟨f1, f2⟩, ⟨g1, g2⟩, g3, g4⟩
  dsimp only at f1 f2 g1 g2 g3 g4
  refine vc1057_l0 _ _ _ _ _ _ ?_
  (simp only [bif_tl, bif_fr, bif_tlf, bif_frf, Bool.not_eq_true', Bool.not_eq_false', decide_eq_true_eq, decide_eq_false_iff_not, beq_iff_eq, beq_eq_false_iff_ne, bne_iff_ne, ne_eq, bne_eq_false_iff_eq, Bool.or_eq_true, Bool.and_eq_true, Bool.or_eq_false_iff, Bool.and_eq_false_imp])
  refine ⟨fun hi => ⟨⟨g1, hi⟩, ?_⟩, fun hi => ?_⟩
  · rw [lenAW_drop _ g1 hi] at g3
    rw [lenBW_drop _ g1 hi] at g4
    have hk : IntKind.wrap .i64 (i + 1) = i + 1 := wr_in (by unfold InR; omega)
    generalize hy : e.ops.getD i.toNat Op.nil = y at *
    generalize hN : (fun s2 => ∃ j : Int × Int × Int, s2 = head1057_0 e j.1 j.2.1 j.2.2 ∧ ((j.1 ≤ 1048576 ∧ j.2.1 ≤ 1048576) ∧ (0 ≤ j.2.2 ∧ j.2.2 ≤ e.ops.length) ∧ lenAW (e.ops.drop j.2.2.toNat) j.1 = lenAW e.ops 0 ∧ lenBW (e.ops.drop j.2.2.toNat) j.2.1 = lenBW e.ops 0) ∧ ((e.ops.length : Int) - j.2.2).toNat < ((e.ops.length : Int) - i).toNat) = NN
    have fin : ∀ a b : Int, a = (if y.kind = 2 then n else capW (wr (n + opLenW y))) → b = (if y.kind = 1 then m else capW (wr (m + opLenW y))) → NN (head1057_0 e a b (i + 1)) := by
      rintro a b ha hb
      rw [← ha] at g3
      rw [← hb] at g4
      rw [← hN]
      have la : a ≤ 1048576 := by rw [ha]; split; exact f1; exact capW_le _
      have lb : b ≤ 1048576 := by rw [hb]; split; exact f2; exact capW_le _
      exact ⟨(a, b, i + 1), rfl, ⟨⟨la, lb⟩, ⟨by dsimp only; omega, by dsimp only; omega⟩, g3, g4⟩, by dsimp only; omega⟩
    have s4 : ∀ a b k : Int, ∀ Q', capW a = (if y.kind = 2 then n else capW (wr (n + opLenW y))) → capW b = (if y.kind = 1 then m else capW (wr (m + opLenW y))) → W1057_c4 e i a b (capW a) NN Q' := by
      intro a b k Q' ha hb
      refine vc1057_c4 _ _ _ _ _ _ _ ?_
      rw [hk]
      (simp only [bif_tl, bif_fr, bif_tlf, bif_frf, Bool.not_eq_true', Bool.not_eq_false', decide_eq_true_eq, decide_eq_false_iff_not, beq_iff_eq, beq_eq_false_iff_ne, bne_iff_ne, ne_eq, bne_eq_false_iff_eq, Bool.or_eq_true, Bool.and_eq_true, Bool.or_eq_false_iff, Bool.and_eq_false_imp])
      refine ⟨fun hc => fin _ _ ha ?_, fun hc => fin _ _ ha ?_⟩
      · rw [← hb, capW, if_pos hc]
      · rw [← hb, capW, if_neg hc]
    have s3 : ∀ a b : Int, ∀ Q', capW a = (if y.kind = 2 then n else capW (wr (n + opLenW y))) → capW b = (if y.kind = 1 then m else capW (wr (m + opLenW y))) → W1057_c3 e i (opLenW y) a b NN Q' := by
      intro a b Q' ha hb
      refine vc1057_c3 _ _ _ _ _ _ _ ?_
      (simp only [bif_tl, bif_fr, bif_tlf, bif_frf, Bool.not_eq_true', Bool.not_eq_false', decide_eq_true_eq, decide_eq_false_iff_not, beq_iff_eq, beq_eq_false_iff_ne, bne_iff_ne, ne_eq, bne_eq_false_iff_eq, Bool.or_eq_true, Bool.and_eq_true, Bool.or_eq_false_iff, Bool.and_eq_false_imp])
      refine ⟨fun hc => ?_, fun hc => ?_⟩
      · have := s4 a b 0 Q' ha hb
        rw [show capW a = 1048576 by rw [capW, if_pos hc]] at this
        exact this
      · have := s4 a b 0 Q' ha hb
        rw [show capW a = a by rw [capW, if_neg hc]] at this
        exact this
    have s2 : ∀ a : Int, ∀ Q', capW a = (if y.kind = 2 then n else capW (wr (n + opLenW y))) → W1057_c2 e m i (opLenW y) a NN Q' := by
      intro a Q' ha
      refine vc1057_c2 _ _ _ _ _ _ _ ?_
      rw [hy]
      (simp only [bif_tl, bif_fr, bif_tlf, bif_frf, Bool.not_eq_true', Bool.not_eq_false', decide_eq_true_eq, decide_eq_false_iff_not, beq_iff_eq, beq_eq_false_iff_ne, bne_iff_ne, ne_eq, bne_eq_false_iff_eq, Bool.or_eq_true, Bool.and_eq_true, Bool.or_eq_false_iff, Bool.and_eq_false_imp])
      exact ⟨fun hb => s3 _ _ _ ha (by rw [if_neg hb]; rfl), fun hb => s3 _ _ _ ha (by rw [if_pos hb]; exact capW_of f2)⟩
    have s1 : ∀ k : Int, ∀ Q', k = opLenW y → W1057_c1 e n m i k NN Q' := by
      rintro k Q' rfl
      refine vc1057_c1 _ _ _ _ _ _ _ ?_
      rw [hy]
      (simp only [bif_tl, bif_fr, bif_tlf, bif_frf, Bool.not_eq_true', Bool.not_eq_false', decide_eq_true_eq, decide_eq_false_iff_not, beq_iff_eq, beq_eq_false_iff_ne, bne_iff_ne, ne_eq, bne_eq_false_iff_eq, Bool.or_eq_true, Bool.and_eq_true, Bool.or_eq_false_iff, Bool.and_eq_false_imp])
      exact ⟨fun hb => s2 _ _ (by rw [if_neg hb]; rfl), fun hb => s2 _ _ (by rw [if_pos hb]; exact capW_of f1)⟩
    exact ⟨fun hb => s1 _ _ (by unfold opLenW; rw [if_pos hb]), fun hb => s1 _ _ (by unfold opLenW; rw [if_neg hb]; rfl)⟩
  · rw [List.drop_of_length_le (by omega)] at g3 g4
    simp only [lenAW, lenBW] at g3 g4
    rw [g3, g4]
    (repeat' (first | exact trivial | exact rfl | refine And.intro ?_ ?_))

/-- Of steps that may be, they are the lengths. -/
theorem lenAW_eq : ∀ (l : List Op) (n : Int), (∀ o ∈ l, (0 ≤ o.n ∧ o.n ≤ 1048576) ∧ o.l.length ≤ 1000000) → 0 ≤ n → n ≤ 1048576 → lenAW l n = lenA l n
  | [], _, _, _, _ => rfl
  | o :: r, n, h, h0, hn => by
    have ho := h o (List.mem_cons_self ..)
    have hl := opLen_eq o
    have ew : opLenW o = opLen o := by
      unfold opLenW; rw [hl]
      split
      · rfl
      · exact wr_in (by unfold InR; omega)
    have hb : 0 ≤ opLen o ∧ opLen o ≤ 3000000 := by rw [hl]; split <;> omega
    simp only [lenAW, lenA]
    rw [ew, wr_in (by unfold InR; omega)]
    have e2 : (if o.kind = 2 then n else capW (n + opLen o)) = min (if o.kind = 2 then n else n + opLen o) 1048576 := by
      unfold capW; split
      · omega
      · split <;> omega
    rw [e2]
    exact lenAW_eq r _ (fun x hx => h x (List.mem_cons_of_mem _ hx)) (by split <;> omega) (by omega)
theorem lenBW_eq : ∀ (l : List Op) (n : Int), (∀ o ∈ l, (0 ≤ o.n ∧ o.n ≤ 1048576) ∧ o.l.length ≤ 1000000) → 0 ≤ n → n ≤ 1048576 → lenBW l n = lenB l n
  | [], _, _, _, _ => rfl
  | o :: r, n, h, h0, hn => by
    have ho := h o (List.mem_cons_self ..)
    have hl := opLen_eq o
    have ew : opLenW o = opLen o := by
      unfold opLenW; rw [hl]
      split
      · rfl
      · exact wr_in (by unfold InR; omega)
    have hb : 0 ≤ opLen o ∧ opLen o ≤ 3000000 := by rw [hl]; split <;> omega
    simp only [lenBW, lenB]
    rw [ew, wr_in (by unfold InR; omega)]
    have e2 : (if o.kind = 1 then n else capW (n + opLen o)) = min (if o.kind = 1 then n else n + opLen o) 1048576 := by
      unfold capW; split
      · omega
      · split <;> omega
    rw [e2]
    exact lenBW_eq r _ (fun x hx => h x (List.mem_cons_of_mem _ hx)) (by split <;> omega) (by omega)

end Go.AM.Ytlahjnelghpmeaa

namespace Go.AM.Ytlahjnelghpmeaa
open Go.AM Go.Proofs

/-! slices.Equal[[]cento/api.WordEdit,cento/api.WordEdit] -/
/-! slices.EqualFunc[[]cento/api.Tree,[]cento/api.Tree,cento/api.Tree,cento/api.Tree] -/
end Go.AM.Ytlahjnelghpmeaa

namespace Go.AM.Ytlahjnelghpmeaa
open Go.AM Go.Proofs

end Go.AM.Ytlahjnelghpmeaa

namespace Go.AM.Ytlahjnelghpmeaa
open Go.AM Go.Proofs

/-! cento/edit.Equal -/
/-! slices.EqualFunc[[]cento/api.KidEdit,[]cento/api.KidEdit,cento/api.KidEdit,cento/api.KidEdit] -/
/-! cento/edit.Equal$1 -/
/-! slices.EqualFunc[[]cento/api.Op,[]cento/api.Op,cento/api.Op,cento/api.Op] -/
/-! cento/edit.Equal$2 -/
end Go.AM.Ytlahjnelghpmeaa

namespace Go.AM.Ytlahjnelghpmeaa
open Go.AM Go.Proofs

end Go.AM.Ytlahjnelghpmeaa

namespace Go.AM.Ytlahjnelghpmeaa
open Go.AM Go.Proofs

def args131 : ArgL (Tree × Unit) := (.cons (aEl .tree) .nil)
def pre131 (a : Tree × Unit) : Prop := mass a.1 ≤ 1000000
noncomputable def res131 (a : Tree × Unit) : V U := .c (.bool (noneT a.1))
noncomputable def spec131 : Fs U := fs args131 (fun a => [pre131 a]) res131

def args118 : ArgL (Edit × Unit) := (.cons (aEl .edit) .nil)
def pre118 (a : Edit × Unit) : Prop := massE a.1 ≤ 1000000
noncomputable def res118 (a : Edit × Unit) : V U := .c (.bool (bareE a.1))
noncomputable def spec118 : Fs U := fs args118 (fun a => [pre118 a]) res118

/-! cento/edit.bare$1 -/
noncomputable def know131 : List (FuncId × Fs U) := []
def lv131 : Lives U := fun i => match i with
  | 0 => ([(1, [])], [((.loc 1), [])])
  | 1 => ([(2, [])], [])
  | _ => ([], [])
abbrev W131 (t : Tree) (Q : AExit → LSt U → Prop) : Prop := awp cfg (know know131) (drawOk cfg (know know131)) Try.f131.ntmps lv131 (cd Try.f131 []) (⟨[(0, .agg [.int .i64 (Tree.kind t), .slice (U := U) .u64 (Tree.words t) .unk, .slice (U := U) .tree (Tree.kids t) .unk])], [], []⟩ : LSt U) Q
/-- the body -/
theorem vc131 (t : Tree) (Q : AExit → LSt U → Prop) (h : ((((Tree.kind t) : Int) == 0) = true → InR ((((Tree.words t).length : Int) : Int) + ((Tree.kids t).length : Int))) ∧ (Q .ret (⟨[(2, .c (.bool (bif (((Tree.kind t) : Int) == 0) then ((((((Tree.words t).length : Int) : Int) + ((Tree.kids t).length : Int)) : Int) == 0) else false)))], [], []⟩ : LSt U))) :
    W131 t Q := by
  have e_ : (awp cfg (know know131) (drawOk cfg (know know131)) Try.f131.ntmps lv131 (cd Try.f131 []) (⟨[(0, .agg [.int .i64 (Tree.kind t), .slice (U := U) .u64 (Tree.words t) .unk, .slice (U := U) .tree (Tree.kids t) .unk])], [], []⟩ : LSt U) Q) = ((((((Tree.kind t) : Int) == 0) = true → (((Tree.kind t) : Int) == 0) = true) ∧ ((((Tree.kind t) : Int) == 0) = true → (((Tree.kind t) : Int) == 0) = true) ∧ ((((Tree.kind t) : Int) == 0) = true → (((Tree.kind t) : Int) == 0) = true) ∧ ((((Tree.kind t) : Int) == 0) = true → (((Tree.kind t) : Int) == 0) = true) ∧ ((((Tree.kind t) : Int) == 0) = true → (((Tree.kind t) : Int) == 0) = true) ∧ ((((Tree.kind t) : Int) == 0) = true → (((Tree.kind t) : Int) == 0) = true) ∧ ((((Tree.kind t) : Int) == 0) = true → InR ((((Tree.words t).length : Int) : Int) + ((Tree.kids t).length : Int))) ∧ ((((Tree.kind t) : Int) == 0) = true → (((Tree.kind t) : Int) == 0) = true) ∧ (((((Tree.kind t) : Int) == 0) = true → (((Tree.kind t) : Int) == 0) = true)) ∧ (Q .ret (⟨[(2, .c (.bool (bif (((Tree.kind t) : Int) == 0) then ((((((Tree.words t).length : Int) : Int) + ((Tree.kids t).length : Int)) : Int) == 0) else false)))], [], []⟩ : LSt U)))) := by kernel_rfl
  exact e_.mpr ⟨fun x => x, fun x => x, fun x => x, fun x => x, fun x => x, fun x => x, h.1, fun x => x, (by generalize (((Tree.kind t) : Int) == 0) = b0; revert b0; decide), h.2⟩
def Body131 (t : Tree)  : Prop := awp cfg (know (know131)) (drawOk cfg (know (know131))) Try.f131.ntmps lv131 (cd Try.f131 []) (entry (args131.can (t, ())) []) (EndsQ cfg Try.f131.ntmps Try.f131.results.toList (res131 (t, ())) [])
theorem make131 (hb : ∀ (t : Tree) (_ : Unit), pre131 (t, ()) → Body131 t) : Contract Try.prog cfg 131 spec131 :=
  contract_flat (l := []) cfgOk rfl (trivial) lv131 Try.func131 rfl rfl 1 (fun _ => rfl) (by decide) (fun ⟨t, _⟩ => hb t ())

/-! cento/edit.bare -/
noncomputable def know118 : List (FuncId × Fs U) := [(131, spec131)]
def lv118 : Lives U := fun i => match i with
  | 0 => ([(1, [])], [((.loc 1), [])])
  | 1 => ([(1, []), (3, [])], [((.loc 1), [])])
  | 2 => ([(1, []), (4, [])], [((.loc 1), [])])
  | 3 => ([(2, [])], [])
  | 4 => ([(1, []), (21, [])], [((.loc 1), [])])
  | 5 => ([(2, [])], [])
  | 6 => ([(2, [])], [])
  | _ => ([], [])
abbrev W118 (e : Edit) (Q : AExit → LSt U → Prop) : Prop := awp cfg (know know118) (drawOk cfg (know know118)) Try.f118.ntmps lv118 (cd Try.f118 []) (⟨[(0, .agg [.int .i64 (Edit.kind e), .int .i64 (Tree.kind (Edit.old e)), .slice (U := U) .u64 (Tree.words (Edit.old e)) .unk, .slice (U := U) .tree (Tree.kids (Edit.old e)) .unk, .int .i64 (Tree.kind (Edit.new e)), .slice (U := U) .u64 (Tree.words (Edit.new e)) .unk, .slice (U := U) .tree (Tree.kids (Edit.new e)) .unk, .slice (U := U) .wedit (Edit.words e) .unk, .slice (U := U) .kid (Edit.kids e) .unk, .int .i64 (Edit.list e), .slice (U := U) .op (Edit.ops e) .unk])], [], []⟩ : LSt U) Q
/-- the body -/
theorem vc118 (e : Edit) (Q : AExit → LSt U → Prop) (h : ∀ y_1, y_1 = ((Edit.new e)) → ∀ y_2, y_2 = ((Edit.old e)) → ((((Edit.kind e) : Int) != 1) = true → pre131 (y_2, ())) ∧ (((((Edit.kind e) : Int) != 1) && (noneT y_2)) = true → pre131 (y_1, ())) ∧ (((bif (((Edit.kind e) : Int) != 1) then (!(bif (noneT y_2) then (noneT y_1) else false)) else false) = true → Q .ret (⟨[(2, .c (.bool false))], [], []⟩ : LSt U)) ∧ ((bif (((Edit.kind e) : Int) != 1) then (!(bif (noneT y_2) then (noneT y_1) else false)) else false) = false → ((((Edit.kind e) : Int) != 2) = true → InR ((((Edit.words e).length : Int) : Int) + ((Edit.kids e).length : Int))) ∧ (((bif (((Edit.kind e) : Int) != 2) then (decide ((0 : Int) < ((((Edit.words e).length : Int) : Int) + ((Edit.kids e).length : Int)))) else false) = true → Q .ret (⟨[(2, .c (.bool false))], [], []⟩ : LSt U)) ∧ ((bif (((Edit.kind e) : Int) != 2) then (decide ((0 : Int) < ((((Edit.words e).length : Int) : Int) + ((Edit.kids e).length : Int)))) else false) = false → Q .ret (⟨[(2, .c (.bool (bif (((Edit.kind e) : Int) == 3) then true else (bif (((Edit.list e) : Int) == 0) then ((((Edit.ops e).length : Int) : Int) == 0) else false))))], [], []⟩ : LSt U)))))) :
    W118 e Q := by
  have e_ : (awp cfg (know know118) (drawOk cfg (know know118)) Try.f118.ntmps lv118 (cd Try.f118 []) (⟨[(0, .agg [.int .i64 (Edit.kind e), .int .i64 (Tree.kind (Edit.old e)), .slice (U := U) .u64 (Tree.words (Edit.old e)) .unk, .slice (U := U) .tree (Tree.kids (Edit.old e)) .unk, .int .i64 (Tree.kind (Edit.new e)), .slice (U := U) .u64 (Tree.words (Edit.new e)) .unk, .slice (U := U) .tree (Tree.kids (Edit.new e)) .unk, .slice (U := U) .wedit (Edit.words e) .unk, .slice (U := U) .kid (Edit.kids e) .unk, .int .i64 (Edit.list e), .slice (U := U) .op (Edit.ops e) .unk])], [], []⟩ : LSt U) Q) = (let y_1 := (reTree (Edit.new e)); let y_2 := (reTree (Edit.old e)); ((((((Edit.kind e) : Int) != 1) = true → (((Edit.kind e) : Int) != 1) = true) ∧ ((((Edit.kind e) : Int) != 1) = true → (((Edit.kind e) : Int) != 1) = true) ∧ ((((Edit.kind e) : Int) != 1) = true → (((Edit.kind e) : Int) != 1) = true) ∧ ((((Edit.kind e) : Int) != 1) = true → pre131 (y_2, ())) ∧ ((((Edit.kind e) : Int) != 1) = true → (((Edit.kind e) : Int) != 1) = true) ∧ (((((Edit.kind e) : Int) != 1) && (noneT y_2)) = true → ((((Edit.kind e) : Int) != 1) && (noneT y_2)) = true) ∧ (((((Edit.kind e) : Int) != 1) && (noneT y_2)) = true → ((((Edit.kind e) : Int) != 1) && (noneT y_2)) = true) ∧ (((((Edit.kind e) : Int) != 1) && (noneT y_2)) = true → ((((Edit.kind e) : Int) != 1) && (noneT y_2)) = true) ∧ (((((Edit.kind e) : Int) != 1) && (noneT y_2)) = true → pre131 (y_1, ())) ∧ ((((Edit.kind e) : Int) != 1) = true → (True → (((Edit.kind e) : Int) != 1) = true)) ∧ ((((Edit.kind e) : Int) != 1) = true → ((noneT y_2) = true → ((((Edit.kind e) : Int) != 1) && (noneT y_2)) = true)) ∧ ((((Edit.kind e) : Int) != 1) = true → (((Edit.kind e) : Int) != 1) = true) ∧ (((((Edit.kind e) : Int) != 1) = true → (((Edit.kind e) : Int) != 1) = true)) ∧ (((bif (((Edit.kind e) : Int) != 1) then (!(bif (noneT y_2) then (noneT y_1) else false)) else false) = true → (Q .ret (⟨[(2, .c (.bool false))], [], []⟩ : LSt U))) ∧ ((bif (((Edit.kind e) : Int) != 1) then (!(bif (noneT y_2) then (noneT y_1) else false)) else false) = false → ((((Edit.kind e) : Int) != 2) = true → (((Edit.kind e) : Int) != 2) = true) ∧ ((((Edit.kind e) : Int) != 2) = true → (((Edit.kind e) : Int) != 2) = true) ∧ ((((Edit.kind e) : Int) != 2) = true → (((Edit.kind e) : Int) != 2) = true) ∧ ((((Edit.kind e) : Int) != 2) = true → (((Edit.kind e) : Int) != 2) = true) ∧ ((((Edit.kind e) : Int) != 2) = true → (((Edit.kind e) : Int) != 2) = true) ∧ ((((Edit.kind e) : Int) != 2) = true → (((Edit.kind e) : Int) != 2) = true) ∧ ((((Edit.kind e) : Int) != 2) = true → InR ((((Edit.words e).length : Int) : Int) + ((Edit.kids e).length : Int))) ∧ ((((Edit.kind e) : Int) != 2) = true → (((Edit.kind e) : Int) != 2) = true) ∧ (((((Edit.kind e) : Int) != 2) = true → (((Edit.kind e) : Int) != 2) = true)) ∧ (((bif (((Edit.kind e) : Int) != 2) then (decide ((0 : Int) < ((((Edit.words e).length : Int) : Int) + ((Edit.kids e).length : Int)))) else false) = true → (Q .ret (⟨[(2, .c (.bool false))], [], []⟩ : LSt U))) ∧ ((bif (((Edit.kind e) : Int) != 2) then (decide ((0 : Int) < ((((Edit.words e).length : Int) : Int) + ((Edit.kids e).length : Int)))) else false) = false → ((!(((Edit.kind e) : Int) == 3)) = true → (!(((Edit.kind e) : Int) == 3)) = true) ∧ ((!(((Edit.kind e) : Int) == 3)) = true → (!(((Edit.kind e) : Int) == 3)) = true) ∧ ((!(((Edit.kind e) : Int) == 3)) = true → (!(((Edit.kind e) : Int) == 3)) = true) ∧ (((!(((Edit.kind e) : Int) == 3)) && (((Edit.list e) : Int) == 0)) = true → ((!(((Edit.kind e) : Int) == 3)) && (((Edit.list e) : Int) == 0)) = true) ∧ (((!(((Edit.kind e) : Int) == 3)) && (((Edit.list e) : Int) == 0)) = true → ((!(((Edit.kind e) : Int) == 3)) && (((Edit.list e) : Int) == 0)) = true) ∧ (((!(((Edit.kind e) : Int) == 3)) && (((Edit.list e) : Int) == 0)) = true → ((!(((Edit.kind e) : Int) == 3)) && (((Edit.list e) : Int) == 0)) = true) ∧ ((!(((Edit.kind e) : Int) == 3)) = true → (True → (!(((Edit.kind e) : Int) == 3)) = true)) ∧ ((!(((Edit.kind e) : Int) == 3)) = true → ((((Edit.list e) : Int) == 0) = true → ((!(((Edit.kind e) : Int) == 3)) && (((Edit.list e) : Int) == 0)) = true)) ∧ (((((Edit.kind e) : Int) == 3) = false → (!(((Edit.kind e) : Int) == 3)) = true)) ∧ (Q .ret (⟨[(2, .c (.bool (bif (((Edit.kind e) : Int) == 3) then true else (bif (((Edit.list e) : Int) == 0) then ((((Edit.ops e).length : Int) : Int) == 0) else false))))], [], []⟩ : LSt U))))))))) := by kernel_rfl
  exact e_.mpr (by intro y_1 y_2; exact ⟨fun x => x, fun x => x, fun x => x, (h y_1 (reTree_eq _) y_2 (reTree_eq _)).1, fun x => x, fun x => x, fun x => x, fun x => x, (h y_1 (reTree_eq _) y_2 (reTree_eq _)).2.1, (by generalize (((Edit.kind e) : Int) != 1) = b0; revert b0; decide), (by generalize (noneT y_2) = b0; generalize (((Edit.kind e) : Int) != 1) = b1; revert b0 b1; decide), fun x => x, (by generalize (((Edit.kind e) : Int) != 1) = b0; revert b0; decide), ⟨fun c_1 => ((h y_1 (reTree_eq _) y_2 (reTree_eq _)).2.2.1 c_1), fun c_1 => ⟨fun x => x, fun x => x, fun x => x, fun x => x, fun x => x, fun x => x, ((h y_1 (reTree_eq _) y_2 (reTree_eq _)).2.2.2 c_1).1, fun x => x, (by generalize (((Edit.kind e) : Int) != 2) = b0; revert b0; decide), ⟨fun c_2 => (((h y_1 (reTree_eq _) y_2 (reTree_eq _)).2.2.2 c_1).2.1 c_2), fun c_2 => ⟨fun x => x, fun x => x, fun x => x, fun x => x, fun x => x, fun x => x, (by generalize (((Edit.kind e) : Int) == 3) = b0; revert b0; decide), (by generalize (((Edit.kind e) : Int) == 3) = b0; generalize (((Edit.list e) : Int) == 0) = b1; revert b0 b1; decide), (by generalize (((Edit.kind e) : Int) == 3) = b0; revert b0; decide), (((h y_1 (reTree_eq _) y_2 (reTree_eq _)).2.2.2 c_1).2.2 c_2)⟩⟩⟩⟩⟩)
def Body118 (e : Edit)  : Prop := awp cfg (know (know118)) (drawOk cfg (know (know118))) Try.f118.ntmps lv118 (cd Try.f118 []) (entry (args118.can (e, ())) []) (EndsQ cfg Try.f118.ntmps Try.f118.results.toList (res118 (e, ())) [])
theorem make118 (c131 : Contract Try.prog cfg 131 spec131) (hb : ∀ (e : Edit) (_ : Unit), pre118 (e, ()) → Body118 e) : Contract Try.prog cfg 118 spec118 :=
  contract_flat (l := [(131, spec131)]) cfgOk rfl (⟨c131, trivial⟩) lv118 Try.func118 rfl rfl 1 (fun _ => rfl) (by decide) (fun ⟨e, _⟩ => hb e ())

end Go.AM.Ytlahjnelghpmeaa

namespace Go.AM.Ytlahjnelghpmeaa
open Go.AM Go.Proofs

theorem c131 : Contract Try.prog cfg 131 spec131 := by
  refine make131 ?_
  intro t _ hp
  simp only [pre131] at hp
  have := len_mass t
  refine vc131 t _ ?_
  refine ⟨fun _ => by unfold InR; omega, ends_bool rfl ?_⟩
  rw [Bool.eq_iff_iff]
  simp only [noneT]
  (simp only [bif_tl, bif_fr, bif_tlf, bif_frf, Bool.not_eq_true', Bool.not_eq_false', decide_eq_true_eq, decide_eq_false_iff_not, beq_iff_eq, beq_eq_false_iff_ne, bne_iff_ne, ne_eq, bne_eq_false_iff_eq, Bool.or_eq_true, Bool.and_eq_true, Bool.or_eq_false_iff, Bool.and_eq_false_imp])
  omega

theorem c118 : Contract Try.prog cfg 118 spec118 := by
  refine make118 c131 ?_
  intro e _ hp
  simp only [pre118] at hp
  have h1 := len_massE e
  have h2 := massKs_len e.kids
  refine vc118 e _ ?_
  rintro y1 rfl y2 rfl
  (simp only [bif_tl, bif_fr, bif_tlf, bif_frf, Bool.not_eq_true', Bool.not_eq_false', decide_eq_true_eq, decide_eq_false_iff_not, beq_iff_eq, beq_eq_false_iff_ne, bne_iff_ne, ne_eq, bne_eq_false_iff_eq, Bool.or_eq_true, Bool.and_eq_true, Bool.or_eq_false_iff, Bool.and_eq_false_imp])
  refine ⟨fun _ => by simp only [pre131]; omega, fun _ => by simp only [pre131]; omega, fun h => ?_, fun h => ⟨fun _ => by unfold InR; omega, fun h3 => ?_, fun h3 => ?_⟩⟩
  · refine ends_bool rfl ?_
    show false = bareE e
    unfold bareE
    rw [if_pos (Or.inl ⟨h.1, fun hn => by have := h.2; rw [hn.1, hn.2] at this; revert this; decide⟩)]
  · refine ends_bool rfl ?_
    show false = bareE e
    unfold bareE
    rw [if_pos (Or.inr (Or.inl ⟨h3.1, by omega⟩))]
  · refine ends_bool rfl ?_
    show _ = bareE e
    unfold bareE
    have g1 : ¬(e.kind ≠ 1 ∧ ¬(noneT e.old = true ∧ noneT e.new = true)) := by
      intro hc
      rcases h with h | h
      · exact hc.1 (by simpa using h)
      · exact hc.2 (by simpa using h)
    have g2 : ¬(e.kind ≠ 2 ∧ ¬(e.words.length = 0 ∧ e.kids.length = 0)) := by omega
    by_cases g3 : e.kind ≠ 3 ∧ (e.list ≠ 0 ∨ e.ops.length ≠ 0)
    · rw [if_pos (Or.inr (Or.inr g3)), Bool.eq_iff_iff]
      (simp only [bif_tl, bif_fr, bif_tlf, bif_frf, Bool.not_eq_true', Bool.not_eq_false', decide_eq_true_eq, decide_eq_false_iff_not, beq_iff_eq, beq_eq_false_iff_ne, bne_iff_ne, ne_eq, bne_eq_false_iff_eq, Bool.or_eq_true, Bool.and_eq_true, Bool.or_eq_false_iff, Bool.and_eq_false_imp])
      constructor
      · intro h; omega
      · intro h; cases h
    · rw [if_neg (by rintro (x | x | x) <;> contradiction), Bool.eq_iff_iff]
      (simp only [bif_tl, bif_fr, bif_tlf, bif_frf, Bool.not_eq_true', Bool.not_eq_false', decide_eq_true_eq, decide_eq_false_iff_not, beq_iff_eq, beq_eq_false_iff_ne, bne_iff_ne, ne_eq, bne_eq_false_iff_eq, Bool.or_eq_true, Bool.and_eq_true, Bool.or_eq_false_iff, Bool.and_eq_false_imp])
      constructor
      · intro _; first | trivial | rfl
      · intro _; omega

end Go.AM.Ytlahjnelghpmeaa
