/- Printed by program: what is known of each function, and the conditions that its code comes to. -/
import Derived.Test.YtlahjnelghpmeaaB22c
set_option linter.unusedSimpArgs false
set_option linter.unusedVariables false
namespace Go.AM.Ytlahjnelghpmeaa
open Go.AM Go.Proofs

def args40 : ArgL (Edit × Unit) := (.cons (aEl .edit) .nil)
def pre40 (a : Edit × Unit) : Prop := massE a.1 ≤ 1000000 ∧ ∃ d, rightE a.1 d = true
def mu40 (a : Edit × Unit) : Nat := 2 * massE a.1
noncomputable def res40 (a : Edit × Unit) : V U := .agg [.int .i64 (Edit.kind (nrmE a.1)), .int .i64 (Tree.kind (Edit.old (nrmE a.1))), .slice (U := U) .u64 (Tree.words (Edit.old (nrmE a.1))) .unk, .slice (U := U) .tree (Tree.kids (Edit.old (nrmE a.1))) .unk, .int .i64 (Tree.kind (Edit.new (nrmE a.1))), .slice (U := U) .u64 (Tree.words (Edit.new (nrmE a.1))) .unk, .slice (U := U) .tree (Tree.kids (Edit.new (nrmE a.1))) .unk, .slice (U := U) .wedit (Edit.words (nrmE a.1)) .unk, .slice (U := U) .kid (Edit.kids (nrmE a.1)) .unk, .int .i64 (Edit.list (nrmE a.1)), .slice (U := U) .op (Edit.ops (nrmE a.1)) .unk]
noncomputable def spec40 : Fs U := fs args40 (fun a => [pre40 a]) res40

def args76 : ArgL (Int × List Op × Unit) := (.cons (aInt .i64) (.cons (aSl .op) .nil))
def pre76 (a : Int × List Op × Unit) : Prop := massOs a.2.1 ≤ 1000000 ∧ ∀ o ∈ a.2.1, ∃ d, rightOp a.1 o d = true
def mu76 (a : Int × List Op × Unit) : Nat := 2 * massOs a.2.1 + 1
noncomputable def res76 (a : Int × List Op × Unit) : V U := .c (.slice (U := U) .op ((flushW (nrmOs a.1 a.2.1 (Wst.mk [] [] []))).out) .unk)
noncomputable def spec76 : Fs U := fs args76 (fun a => [pre76 a]) res76

noncomputable def know40 (N : Nat) : List (FuncId × Fs U) := (40, fs args40 (fun a => [pre40 a, mu40 a < N]) res40) :: (76, fs args76 (fun a => [pre76 a, mu76 a < N]) res76) :: [(32, spec32), (42, spec1042), (105, spec105), (107, spec107), (106, spec2106)]
def lv40 : Lives U := fun i => match i with
  | 0 => ([(1, []), (2, [])], [((.loc 1), []), ((.loc 2), [])])
  | 1 => ([(1, []), (2, []), (3, [])], [((.loc 1), []), ((.loc 2), []), ((.loc 3), [])])
  | 2 => ([(1, []), (2, []), (3, []), (12, [])], [((.loc 1), []), ((.loc 2), []), ((.loc 3), [])])
  | 3 => ([(1, []), (2, []), (3, []), (12, []), (13, [])], [((.loc 1), []), ((.loc 2), []), ((.loc 3), [])])
  | 4 => ([(2, []), (3, [])], [((.loc 2), []), ((.loc 3), [])])
  | 5 => ([(1, []), (2, []), (3, []), (12, []), (23, [])], [((.loc 1), []), ((.loc 2), []), ((.loc 3), [])])
  | 6 => ([(1, []), (2, []), (3, [])], [((.loc 1), []), ((.loc 2), []), ((.loc 3), [])])
  | 7 => ([(2, []), (3, []), (32, []), (33, []), (34, [])], [((.loc 2), []), ((.loc 3), [.any, .any, .any, .any, .any, .any, .any, .any, .own .kid])])
  | 8 => ([(2, []), (3, []), (32, []), (33, []), (34, []), (35, [])], [((.loc 2), []), ((.loc 3), [])])
  | 9 => ([(2, []), (3, []), (5, []), (32, []), (33, []), (34, [])], [((.loc 2), []), ((.loc 3), []), ((.loc 5), [])])
  | 10 => ([(2, []), (3, []), (32, []), (33, []), (34, [])], [((.loc 2), []), ((.loc 3), [])])
  | 11 => ([(2, []), (3, []), (32, []), (33, []), (34, [])], [((.loc 2), []), ((.loc 3), [.any, .any, .any, .any, .any, .any, .any, .any, .own .kid])])
  | 12 => ([(1, []), (2, []), (3, []), (50, [])], [((.loc 1), []), ((.loc 2), []), ((.loc 3), [])])
  | 13 => ([(2, []), (3, [])], [((.loc 2), []), ((.loc 3), [])])
  | 14 => ([(2, [])], [((.loc 2), [])])
  | _ => ([], [])
def head40_0 (e : Edit) (x34 : Int) (ml3_8 : List Kid) : LSt U := (⟨[(2, .ptr (.loc 2) 0), (3, .ptr (.loc 3) 0), (32, .c (.slice (U := U) .kid (Edit.kids e) .unk)), (33, .c (.int .i64 ((Edit.kids e).length : Int))), (34, .c (.int .i64 x34))], [((.loc 2), [.int .i64 0, .int .i64 0, .nils, .nils, .int .i64 0, .nils, .nils, .nils, .nils, .int .i64 0, .nils]), ((.loc 3), [.int .i64 (Edit.kind e), .int .i64 0, .nils, .nils, .int .i64 0, .nils, .nils, .slice (U := U) .wedit (([] : List WEdit) ++ (Edit.words e)) (.own (.l 3 7)), .slice (U := U) .kid ml3_8 (.own (.l 3 8)), .int .i64 (Edit.list e), .nils])], []⟩ : LSt U)
abbrev W40 (N : Nat) (e : Edit) (Q : AExit → LSt U → Prop) : Prop := awp cfg (know (know40 N)) (drawOk cfg (know (know40 N))) Try.f40.ntmps lv40 (cd Try.f40 []) (⟨[(0, .agg [.int .i64 (Edit.kind e), .int .i64 (Tree.kind (Edit.old e)), .slice (U := U) .u64 (Tree.words (Edit.old e)) .unk, .slice (U := U) .tree (Tree.kids (Edit.old e)) .unk, .int .i64 (Tree.kind (Edit.new e)), .slice (U := U) .u64 (Tree.words (Edit.new e)) .unk, .slice (U := U) .tree (Tree.kids (Edit.new e)) .unk, .slice (U := U) .wedit (Edit.words e) .unk, .slice (U := U) .kid (Edit.kids e) .unk, .int .i64 (Edit.list e), .slice (U := U) .op (Edit.ops e) .unk])], [], []⟩ : LSt U) Q
theorem vc40 (N : Nat) (e : Edit) (Q : AExit → LSt U → Prop) (h : ((((Edit.kind e) : Int) == 1) = true → (pre32 ((Tree.mk (Tree.kind (Edit.old e)) (Tree.words (Edit.old e)) (Tree.kids (Edit.old e))), ())) ∧ (pre32 ((Tree.mk (Tree.kind (Edit.new e)) (Tree.words (Edit.new e)) (Tree.kids (Edit.new e))), ())) ∧ (Q .ret (⟨[(2, .ptr (.loc 2) 0)], [((.loc 2), [.int .i64 (Edit.kind e), .int .i64 (Tree.kind (normT (Tree.mk (Tree.kind (Edit.old e)) (Tree.words (Edit.old e)) (Tree.kids (Edit.old e))))), .slice (U := U) .u64 (Tree.words (normT (Tree.mk (Tree.kind (Edit.old e)) (Tree.words (Edit.old e)) (Tree.kids (Edit.old e))))) .unk, .slice (U := U) .tree (Tree.kids (normT (Tree.mk (Tree.kind (Edit.old e)) (Tree.words (Edit.old e)) (Tree.kids (Edit.old e))))) .unk, .int .i64 (Tree.kind (normT (Tree.mk (Tree.kind (Edit.new e)) (Tree.words (Edit.new e)) (Tree.kids (Edit.new e))))), .slice (U := U) .u64 (Tree.words (normT (Tree.mk (Tree.kind (Edit.new e)) (Tree.words (Edit.new e)) (Tree.kids (Edit.new e))))) .unk, .slice (U := U) .tree (Tree.kids (normT (Tree.mk (Tree.kind (Edit.new e)) (Tree.words (Edit.new e)) (Tree.kids (Edit.new e))))) .unk, .nils, .nils, .int .i64 (Edit.list e), .nils])], []⟩ : LSt U))) ∧ ((((Edit.kind e) : Int) == 1) = false → ((((Edit.kind e) : Int) == 2) = true → ((([] : List WEdit).length + (Edit.words e).length) * 32 ≤ 140737488355328) ∧ (LoopWp (awp cfg (know (know40 N)) (drawOk cfg (know (know40 N))) Try.f40.ntmps lv40 (cd Try.f40 [1, 1, 0, 1, 0, 1, 1, 1, 0, 1, 1, 0, 0])) (head40_0 e 0 ([])) (AExit.inBlock 1 (AExit.inBlock 0 (seqK cfg (know (know40 N)) (drawOk cfg (know (know40 N))) Try.f40.ntmps lv40 (cd Try.f40 [1, 1, 1]) Q))))) ∧ ((((Edit.kind e) : Int) == 2) = false → ((((Edit.kind e) : Int) == 3) = true → (pre76 ((Edit.list e), (Edit.ops e), ())) ∧ (mu76 ((Edit.list e), (Edit.ops e), ()) < N) ∧ (Q .ret (⟨[(2, .ptr (.loc 2) 0)], [((.loc 2), [.int .i64 (Edit.kind e), .int .i64 0, .nils, .nils, .int .i64 0, .nils, .nils, .nils, .nils, .int .i64 (Edit.list e), .slice (U := U) .op ((flushW (nrmOs (Edit.list e) (Edit.ops e) (Wst.mk [] [] []))).out) .unk])], []⟩ : LSt U))) ∧ ((((Edit.kind e) : Int) == 3) = false → Q .ret (⟨[(2, .ptr (.loc 2) 0)], [((.loc 2), [.int .i64 (Edit.kind e), .int .i64 0, .nils, .nils, .int .i64 0, .nils, .nils, .nils, .nils, .int .i64 (Edit.list e), .nils])], []⟩ : LSt U))))) :
    W40 N e Q := by
  have e_ : (W40 N e Q) = (((((((((Edit.kind e) : Int) == 1) = true → (pre32 ((Tree.mk (Tree.kind (Edit.old e)) (Tree.words (Edit.old e)) (Tree.kids (Edit.old e))), ())) ∧ (pre32 ((Tree.mk (Tree.kind (Edit.new e)) (Tree.words (Edit.new e)) (Tree.kids (Edit.new e))), ())) ∧ ((Q .ret (⟨[(2, .ptr (.loc 2) 0)], [((.loc 2), [.int .i64 (Edit.kind e), .int .i64 (Tree.kind (normT (Tree.mk (Tree.kind (Edit.old e)) (Tree.words (Edit.old e)) (Tree.kids (Edit.old e))))), .slice (U := U) .u64 (Tree.words (normT (Tree.mk (Tree.kind (Edit.old e)) (Tree.words (Edit.old e)) (Tree.kids (Edit.old e))))) .unk, .slice (U := U) .tree (Tree.kids (normT (Tree.mk (Tree.kind (Edit.old e)) (Tree.words (Edit.old e)) (Tree.kids (Edit.old e))))) .unk, .int .i64 (Tree.kind (normT (Tree.mk (Tree.kind (Edit.new e)) (Tree.words (Edit.new e)) (Tree.kids (Edit.new e))))), .slice (U := U) .u64 (Tree.words (normT (Tree.mk (Tree.kind (Edit.new e)) (Tree.words (Edit.new e)) (Tree.kids (Edit.new e))))) .unk, .slice (U := U) .tree (Tree.kids (normT (Tree.mk (Tree.kind (Edit.new e)) (Tree.words (Edit.new e)) (Tree.kids (Edit.new e))))) .unk, .nils, .nils, .int .i64 (Edit.list e), .nils])], []⟩ : LSt U)))) ∧ ((((Edit.kind e) : Int) == 1) = false → (((((Edit.kind e) : Int) == 2) = true → ((([] : List WEdit).length + (Edit.words e).length) * 32 ≤ 140737488355328) ∧ ((LoopWp (awp cfg (know (know40 N)) (drawOk cfg (know (know40 N))) Try.f40.ntmps lv40 (cd Try.f40 [1, 1, 0, 1, 0, 1, 1, 1, 0, 1, 1, 0, 0])) (head40_0 e 0 ([])) (AExit.inBlock 1 (AExit.inBlock 0 (seqK cfg (know (know40 N)) (drawOk cfg (know (know40 N))) Try.f40.ntmps lv40 (cd Try.f40 [1, 1, 1]) Q)))))) ∧ ((((Edit.kind e) : Int) == 2) = false → (((((Edit.kind e) : Int) == 3) = true → (pre76 ((Edit.list e), (Edit.ops e), ())) ∧ (mu76 ((Edit.list e), (Edit.ops e), ()) < N) ∧ ((Q .ret (⟨[(2, .ptr (.loc 2) 0)], [((.loc 2), [.int .i64 (Edit.kind e), .int .i64 0, .nils, .nils, .int .i64 0, .nils, .nils, .nils, .nils, .int .i64 (Edit.list e), .slice (U := U) .op ((flushW (nrmOs (Edit.list e) (Edit.ops e) (Wst.mk [] [] []))).out) .unk])], []⟩ : LSt U)))) ∧ ((((Edit.kind e) : Int) == 3) = false → (Q .ret (⟨[(2, .ptr (.loc 2) 0)], [((.loc 2), [.int .i64 (Edit.kind e), .int .i64 0, .nils, .nils, .int .i64 0, .nils, .nils, .nils, .nils, .int .i64 (Edit.list e), .nils])], []⟩ : LSt U)))))))))))) := by kernel_rfl
  exact e_.mpr ⟨fun c_1 => ⟨(h.1 c_1).1, (h.1 c_1).2.1, (h.1 c_1).2.2⟩, fun c_1 => ⟨fun c_2 => ⟨((h.2 c_1).1 c_2).1, ((h.2 c_1).1 c_2).2⟩, fun c_2 => ⟨fun c_3 => ⟨(((h.2 c_1).2 c_2).1 c_3).1, (((h.2 c_1).2 c_2).1 c_3).2.1, (((h.2 c_1).2 c_2).1 c_3).2.2⟩, fun c_3 => (((h.2 c_1).2 c_2).2 c_3)⟩⟩⟩
abbrev W40_l0 (N : Nat) (e : Edit) (x34 : Int) (ml3_8 : List Kid) (N0 : LSt U → Prop) (Q : AExit → LSt U → Prop) : Prop := awp cfg (know (know40 N)) (drawOk cfg (know (know40 N))) Try.f40.ntmps lv40 (cd Try.f40 [1, 1, 0, 1, 0, 1, 1, 1, 0, 1, 1, 0, 0]) (head40_0 e x34 ml3_8) (AExit.then N0 (AExit.inBlock 1 (AExit.inBlock 0 (seqK cfg (know (know40 N)) (drawOk cfg (know (know40 N))) Try.f40.ntmps lv40 (cd Try.f40 [1, 1, 1]) Q))))
theorem vc40_l0 (N : Nat) (e : Edit) (x34 : Int) (ml3_8 : List Kid) (N0 : LSt U → Prop) (Q : AExit → LSt U → Prop) (h : ∀ y_1, y_1 = (List.getD (Edit.kids e) (Int.toNat x34) (KidOf.mk 0 Edit.nil)) → ∀ y_2, y_2 = ((KidOf.e y_1)) → ∀ y_3, y_3 = ((nrmE y_2)) → ((decide ((x34 : Int) < ((Edit.kids e).length : Int))) = true → ((0 : Int) ≤ x34 ∧ x34 < ((Edit.kids e).length : Int)) ∧ ((pre40 (y_2, ())) ∧ (mu40 (y_2, ()) < N) ∧ ((ml3_8.length + ([(KidOf.mk (KidOf.at_ y_1) y_3 : Kid)]).length) * 208 ≤ 140737488355328) ∧ ((InR ((x34 : Int) + 1)) ∧ (N0 (head40_0 e ((x34 : Int) + 1) (ml3_8 ++ ([(KidOf.mk (KidOf.at_ y_1) y_3 : Kid)]))))))) ∧ ((decide ((x34 : Int) < ((Edit.kids e).length : Int))) = false → Q .ret (⟨[(2, .ptr (.loc 2) 0)], [((.loc 2), [.int .i64 (Edit.kind e), .int .i64 0, .nils, .nils, .int .i64 0, .nils, .nils, .slice (U := U) .wedit (([] : List WEdit) ++ (Edit.words e)) (.own (.l 2 7)), .slice (U := U) .kid ml3_8 (.own (.l 2 8)), .int .i64 (Edit.list e), .nils])], []⟩ : LSt U))) :
    W40_l0 N e x34 ml3_8 N0 Q := by
  have e_ : (W40_l0 N e x34 ml3_8 N0 Q) = (let y_1 := (List.getD (Edit.kids e) (Int.toNat x34) (KidOf.mk 0 Edit.nil)); let y_2 := (reEdit (KidOf.e y_1)); let y_3 := (reEdit (nrmE y_2)); (((decide ((x34 : Int) < ((Edit.kids e).length : Int))) = true → ((0 : Int) ≤ x34 ∧ x34 < ((Edit.kids e).length : Int)) ∧ ((pre40 (y_2, ())) ∧ (mu40 (y_2, ()) < N) ∧ ((ml3_8.length + ([(KidOf.mk (KidOf.at_ y_1) y_3 : Kid)]).length) * 208 ≤ 140737488355328) ∧ ((InR ((x34 : Int) + 1)) ∧ (N0 (head40_0 e ((x34 : Int) + 1) (ml3_8 ++ ([(KidOf.mk (KidOf.at_ y_1) y_3 : Kid)]))))))) ∧ ((decide ((x34 : Int) < ((Edit.kids e).length : Int))) = false → (Q .ret (⟨[(2, .ptr (.loc 2) 0)], [((.loc 2), [.int .i64 (Edit.kind e), .int .i64 0, .nils, .nils, .int .i64 0, .nils, .nils, .slice (U := U) .wedit (([] : List WEdit) ++ (Edit.words e)) (.own (.l 2 7)), .slice (U := U) .kid ml3_8 (.own (.l 2 8)), .int .i64 (Edit.list e), .nils])], []⟩ : LSt U))))) := by kernel_rfl
  exact e_.mpr (by intro y_1 y_2 y_3; have hh := h y_1 rfl y_2 (reEdit_eq _) y_3 (reEdit_eq _); exact ⟨fun c_4 => ⟨(hh.1 c_4).1, ⟨(hh.1 c_4).2.1, (hh.1 c_4).2.2.1, (hh.1 c_4).2.2.2.1, ⟨(hh.1 c_4).2.2.2.2.1, (hh.1 c_4).2.2.2.2.2⟩⟩⟩, fun c_4 => (hh.2 c_4)⟩)
def Body40 (N : Nat) (e : Edit)  : Prop := awp cfg (know (know40 N)) (drawOk cfg (know (know40 N))) Try.f40.ntmps lv40 (cd Try.f40 []) (entry (args40.can (e, ())) []) (EndsQ cfg Try.f40.ntmps Try.f40.results.toList (res40 (e, ())) [])
abbrev HB40 : Prop := ∀ (N : Nat) (e : Edit) (_ : Unit), pre40 (e, ()) → mu40 (e, ()) < N + 1 → Body40 N e

noncomputable def know76 (N : Nat) : List (FuncId × Fs U) := (40, fs args40 (fun a => [pre40 a, mu40 a < N]) res40) :: (76, fs args76 (fun a => [pre76 a, mu76 a < N]) res76) :: [(32, spec32), (42, spec1042), (105, spec105), (107, spec107), (106, spec2106)]
def lv76 : Lives U := fun i => match i with
  | 0 => ([(0, []), (1, [])], [])
  | 1 => ([(0, []), (1, []), (5, [])], [((.loc 10), [.wr .op])])
  | 2 => ([(0, []), (5, []), (11, []), (12, []), (13, [])], [((.loc 10), [.wr .op, .own .tree, .own .tree])])
  | 3 => ([(0, []), (5, []), (11, []), (12, []), (13, []), (14, [])], [((.loc 10), [.wr .op])])
  | 4 => ([(0, []), (5, []), (7, []), (11, []), (12, []), (13, [])], [((.loc 7), []), ((.loc 10), [.wr .op])])
  | 5 => ([(0, []), (5, []), (7, []), (11, []), (12, []), (13, []), (18, [])], [((.loc 7), []), ((.loc 10), [.wr .op])])
  | 6 => ([(0, []), (5, []), (7, []), (11, []), (12, []), (13, []), (18, []), (19, [])], [((.loc 7), []), ((.loc 10), [.wr .op])])
  | 7 => ([(0, []), (5, []), (11, []), (12, []), (13, [])], [((.loc 10), [.wr .op])])
  | 8 => ([(0, []), (5, []), (7, []), (11, []), (12, []), (13, []), (18, []), (25, [])], [((.loc 7), []), ((.loc 10), [.wr .op])])
  | 9 => ([(0, []), (5, []), (11, []), (12, []), (13, [])], [((.loc 10), [.wr .op])])
  | 10 => ([(0, []), (5, []), (7, []), (11, []), (12, []), (13, []), (18, []), (33, [])], [((.loc 7), []), ((.loc 10), [.wr .op])])
  | 11 => ([(0, []), (5, []), (11, []), (12, []), (13, [])], [((.loc 10), [.wr .op])])
  | 12 => ([(0, []), (5, []), (7, []), (11, []), (12, []), (13, []), (41, [])], [((.loc 7), []), ((.loc 10), [.wr .op])])
  | 13 => ([(0, []), (5, []), (8, []), (11, []), (12, []), (13, [])], [((.loc 8), []), ((.loc 10), [.wr .op])])
  | 14 => ([(0, []), (5, []), (8, []), (11, []), (12, []), (13, []), (48, [])], [((.loc 8), []), ((.loc 10), [.wr .op])])
  | 15 => ([(0, []), (5, []), (11, []), (12, []), (13, [])], [((.loc 10), [.wr .op])])
  | 16 => ([(0, []), (5, []), (8, []), (11, []), (12, []), (13, [])], [((.loc 8), []), ((.loc 10), [.wr .op])])
  | 17 => ([(0, []), (5, []), (11, []), (12, []), (13, [])], [((.loc 10), [.wr .op])])
  | 18 => ([(0, []), (5, []), (11, []), (12, []), (13, [])], [((.loc 10), [.wr .op, .own .tree, .own .tree])])
  | 19 => ([(5, [])], [((.loc 10), [.wr .op])])
  | 20 => ([(4, [])], [])
  | _ => ([], [])
def head76_0 (list : Int) (l : List Op) (x13 : Int) (rl_10_0 : List Op) (ml10_1 : List Tree) (ml10_2 : List Tree) : LSt U := (⟨[(0, .c (.int .i64 list)), (5, .ptr (.loc 10) 0), (11, .c (.slice (U := U) .op l .unk)), (12, .c (.int .i64 (l.length : Int))), (13, .c (.int .i64 x13))], [((.loc 10), [.mref (.l 10 0), .slice (U := U) .tree ml10_1 (.own (.l 10 1)), .slice (U := U) .tree ml10_2 (.own (.l 10 2))])], [(.l 10 0, LC.mk (U := U) .op rl_10_0 0)]⟩ : LSt U)
abbrev W76 (N : Nat) (list : Int) (l : List Op) (Q : AExit → LSt U → Prop) : Prop := awp cfg (know (know76 N)) (drawOk cfg (know (know76 N))) Try.f76.ntmps lv76 (cd Try.f76 []) (⟨[(0, .c (.int .i64 list)), (1, .c (.slice (U := U) .op l .unk))], [], []⟩ : LSt U) Q
theorem vc76 (N : Nat) (list : Int) (l : List Op) (Q : AExit → LSt U → Prop) (h : LoopWp (awp cfg (know (know76 N)) (drawOk cfg (know (know76 N))) Try.f76.ntmps lv76 (cd Try.f76 [1, 1, 0, 1, 0, 0])) (head76_0 list l 0 ([]) ([]) ([])) (AExit.inBlock 0 (seqK cfg (know (know76 N)) (drawOk cfg (know (know76 N))) Try.f76.ntmps lv76 (cd Try.f76 [1, 1, 1]) Q))) :
    W76 N list l Q := by
  have e_ : (W76 N list l Q) = ((((LoopWp (awp cfg (know (know76 N)) (drawOk cfg (know (know76 N))) Try.f76.ntmps lv76 (cd Try.f76 [1, 1, 0, 1, 0, 0])) (head76_0 list l 0 ([]) ([]) ([])) (AExit.inBlock 0 (seqK cfg (know (know76 N)) (drawOk cfg (know (know76 N))) Try.f76.ntmps lv76 (cd Try.f76 [1, 1, 1]) Q)))))) := by kernel_rfl
  exact e_.mpr h
abbrev W76_l0 (N : Nat) (list : Int) (l : List Op) (x13 : Int) (rl_10_0 : List Op) (ml10_1 : List Tree) (ml10_2 : List Tree) (N0 : LSt U → Prop) (Q : AExit → LSt U → Prop) : Prop := awp cfg (know (know76 N)) (drawOk cfg (know (know76 N))) Try.f76.ntmps lv76 (cd Try.f76 [1, 1, 0, 1, 0, 0]) (head76_0 list l x13 rl_10_0 ml10_1 ml10_2) (AExit.then N0 (AExit.inBlock 0 (seqK cfg (know (know76 N)) (drawOk cfg (know (know76 N))) Try.f76.ntmps lv76 (cd Try.f76 [1, 1, 1]) Q)))
theorem vc76_l0 (N : Nat) (list : Int) (l : List Op) (x13 : Int) (rl_10_0 : List Op) (ml10_1 : List Tree) (ml10_2 : List Tree) (N0 : LSt U → Prop) (Q : AExit → LSt U → Prop) (h : ∀ y_1, y_1 = (List.getD l (Int.toNat x13) Op.nil) → ∀ y_2, y_2 = (Edit.mk 0 (Tree.mk 0 ([]) ([])) (Tree.mk 0 ([]) ([])) ([]) ([]) 0 ([])) → ∀ y_3, y_3 = (Int.toNat (((flushW (Wst.mk rl_10_0 ml10_1 ml10_2)).out).length : Int)) → ∀ y_4, y_4 = ((OpOf.e y_1)) → ∀ y_5, y_5 = ((nrmE y_4)) → ((decide ((x13 : Int) < (l.length : Int))) = true → ((0 : Int) ≤ x13 ∧ x13 < (l.length : Int)) ∧ (((((OpOf.kind y_1) : Int) == 0) = true → (pre105 ((rl_10_0, ml10_1, ml10_2, ()), (OpOf.n y_1), ())) ∧ ((InR ((x13 : Int) + 1)) ∧ (N0 (head76_0 list l ((x13 : Int) + 1) ((keepW (Wst.mk rl_10_0 ml10_1 ml10_2) (OpOf.n y_1)).out) ((keepW (Wst.mk rl_10_0 ml10_1 ml10_2) (OpOf.n y_1)).gone) ((keepW (Wst.mk rl_10_0 ml10_1 ml10_2) (OpOf.n y_1)).brought))))) ∧ ((((OpOf.kind y_1) : Int) == 0) = false → ((((OpOf.kind y_1) : Int) == 1) = true → (pre106 ((rl_10_0, ml10_1, ml10_2, ()), (OpOf.l y_1), ())) ∧ ((InR ((x13 : Int) + 1)) ∧ (N0 (head76_0 list l ((x13 : Int) + 1) ((Wst.mk rl_10_0 (ml10_1 ++ normsT (OpOf.l y_1)) ml10_2).out) ((Wst.mk rl_10_0 (ml10_1 ++ normsT (OpOf.l y_1)) ml10_2).gone) ((Wst.mk rl_10_0 (ml10_1 ++ normsT (OpOf.l y_1)) ml10_2).brought))))) ∧ ((((OpOf.kind y_1) : Int) == 1) = false → ((((OpOf.kind y_1) : Int) == 2) = true → (pre1106 ((rl_10_0, ml10_1, ml10_2, ()), (OpOf.l y_1), ())) ∧ ((InR ((x13 : Int) + 1)) ∧ (N0 (head76_0 list l ((x13 : Int) + 1) ((Wst.mk rl_10_0 ml10_1 (ml10_2 ++ normsT (OpOf.l y_1))).out) ((Wst.mk rl_10_0 ml10_1 (ml10_2 ++ normsT (OpOf.l y_1))).gone) ((Wst.mk rl_10_0 ml10_1 (ml10_2 ++ normsT (OpOf.l y_1))).brought))))) ∧ ((((OpOf.kind y_1) : Int) == 2) = false → ((((OpOf.kind y_1) : Int) == 3) = true → (pre40 (y_4, ())) ∧ (mu40 (y_4, ()) < N) ∧ ((pre1042 (list, y_5, ())) ∧ (((idleE list y_5) = true → (pre105 ((rl_10_0, ml10_1, ml10_2, ()), 1, ())) ∧ ((InR ((x13 : Int) + 1)) ∧ (N0 (head76_0 list l ((x13 : Int) + 1) ((keepW (Wst.mk rl_10_0 ml10_1 ml10_2) 1).out) ((keepW (Wst.mk rl_10_0 ml10_1 ml10_2) 1).gone) ((keepW (Wst.mk rl_10_0 ml10_1 ml10_2) 1).brought))))) ∧ ((idleE list y_5) = false → (pre107 ((rl_10_0, ml10_1, ml10_2, ()), ())) ∧ (((((flushW (Wst.mk rl_10_0 ml10_1 ml10_2)).out).length + ([(OpOf.mk 0 0 ([]) y_2 : Op)]).length) * 240 ≤ 140737488355328) ∧ ((0 : Int) ≤ (((flushW (Wst.mk rl_10_0 ml10_1 ml10_2)).out).length : Int) ∧ (((flushW (Wst.mk rl_10_0 ml10_1 ml10_2)).out).length : Int) < ((((flushW (Wst.mk rl_10_0 ml10_1 ml10_2)).out) ++ ([(OpOf.mk 0 0 ([]) y_2 : Op)])).length : Int)) ∧ ((0 : Nat) ≤ y_3) ∧ ((InR ((x13 : Int) + 1)) ∧ (N0 (head76_0 list l ((x13 : Int) + 1) (List.set (((flushW (Wst.mk rl_10_0 ml10_1 ml10_2)).out) ++ ([(OpOf.mk 0 0 ([]) y_2 : Op)])) y_3 (OpOf.mk 3 0 ([]) y_5 : Op)) ((flushW (Wst.mk rl_10_0 ml10_1 ml10_2)).gone) ((flushW (Wst.mk rl_10_0 ml10_1 ml10_2)).brought))))))))) ∧ ((((OpOf.kind y_1) : Int) == 3) = false → (InR ((x13 : Int) + 1)) ∧ (N0 (head76_0 list l ((x13 : Int) + 1) rl_10_0 ml10_1 ml10_2)))))))) ∧ ((decide ((x13 : Int) < (l.length : Int))) = false → (pre107 ((rl_10_0, ml10_1, ml10_2, ()), ())) ∧ (Q .ret (⟨[(4, .c (.slice (U := U) .op ((flushW (Wst.mk rl_10_0 ml10_1 ml10_2)).out) (.own (.e 4 0))))], [], []⟩ : LSt U)))) :
    W76_l0 N list l x13 rl_10_0 ml10_1 ml10_2 N0 Q := by
  have e_ : (W76_l0 N list l x13 rl_10_0 ml10_1 ml10_2 N0 Q) = (let y_1 := (List.getD l (Int.toNat x13) Op.nil); let y_2 := (Edit.mk 0 (Tree.mk 0 ([]) ([])) (Tree.mk 0 ([]) ([])) ([]) ([]) 0 ([])); let y_3 := (Int.toNat (((flushW (Wst.mk rl_10_0 ml10_1 ml10_2)).out).length : Int)); let y_4 := (reEdit (OpOf.e y_1)); let y_5 := (reEdit (nrmE y_4)); (((decide ((x13 : Int) < (l.length : Int))) = true → ((0 : Int) ≤ x13 ∧ x13 < (l.length : Int)) ∧ (((((((OpOf.kind y_1) : Int) == 0) = true → (pre105 ((rl_10_0, ml10_1, ml10_2, ()), (OpOf.n y_1), ())) ∧ ((InR ((x13 : Int) + 1)) ∧ (N0 (head76_0 list l ((x13 : Int) + 1) ((keepW (Wst.mk rl_10_0 ml10_1 ml10_2) (OpOf.n y_1)).out) ((keepW (Wst.mk rl_10_0 ml10_1 ml10_2) (OpOf.n y_1)).gone) ((keepW (Wst.mk rl_10_0 ml10_1 ml10_2) (OpOf.n y_1)).brought))))) ∧ ((((OpOf.kind y_1) : Int) == 0) = false → (((((OpOf.kind y_1) : Int) == 1) = true → (pre106 ((rl_10_0, ml10_1, ml10_2, ()), (OpOf.l y_1), ())) ∧ ((InR ((x13 : Int) + 1)) ∧ (N0 (head76_0 list l ((x13 : Int) + 1) ((Wst.mk rl_10_0 (ml10_1 ++ normsT (OpOf.l y_1)) ml10_2).out) ((Wst.mk rl_10_0 (ml10_1 ++ normsT (OpOf.l y_1)) ml10_2).gone) ((Wst.mk rl_10_0 (ml10_1 ++ normsT (OpOf.l y_1)) ml10_2).brought))))) ∧ ((((OpOf.kind y_1) : Int) == 1) = false → (((((OpOf.kind y_1) : Int) == 2) = true → (pre1106 ((rl_10_0, ml10_1, ml10_2, ()), (OpOf.l y_1), ())) ∧ ((InR ((x13 : Int) + 1)) ∧ (N0 (head76_0 list l ((x13 : Int) + 1) ((Wst.mk rl_10_0 ml10_1 (ml10_2 ++ normsT (OpOf.l y_1))).out) ((Wst.mk rl_10_0 ml10_1 (ml10_2 ++ normsT (OpOf.l y_1))).gone) ((Wst.mk rl_10_0 ml10_1 (ml10_2 ++ normsT (OpOf.l y_1))).brought))))) ∧ ((((OpOf.kind y_1) : Int) == 2) = false → (((((OpOf.kind y_1) : Int) == 3) = true → (pre40 (y_4, ())) ∧ (mu40 (y_4, ()) < N) ∧ ((pre1042 (list, y_5, ())) ∧ (((idleE list y_5) = true → (pre105 ((rl_10_0, ml10_1, ml10_2, ()), 1, ())) ∧ ((InR ((x13 : Int) + 1)) ∧ (N0 (head76_0 list l ((x13 : Int) + 1) ((keepW (Wst.mk rl_10_0 ml10_1 ml10_2) 1).out) ((keepW (Wst.mk rl_10_0 ml10_1 ml10_2) 1).gone) ((keepW (Wst.mk rl_10_0 ml10_1 ml10_2) 1).brought))))) ∧ ((idleE list y_5) = false → (pre107 ((rl_10_0, ml10_1, ml10_2, ()), ())) ∧ (((((flushW (Wst.mk rl_10_0 ml10_1 ml10_2)).out).length + ([(OpOf.mk 0 0 ([]) y_2 : Op)]).length) * 240 ≤ 140737488355328) ∧ ((0 : Int) ≤ (((flushW (Wst.mk rl_10_0 ml10_1 ml10_2)).out).length : Int) ∧ (((flushW (Wst.mk rl_10_0 ml10_1 ml10_2)).out).length : Int) < ((((flushW (Wst.mk rl_10_0 ml10_1 ml10_2)).out) ++ ([(OpOf.mk 0 0 ([]) y_2 : Op)])).length : Int)) ∧ ((0 : Nat) ≤ y_3) ∧ ((InR ((x13 : Int) + 1)) ∧ (N0 (head76_0 list l ((x13 : Int) + 1) (List.set (((flushW (Wst.mk rl_10_0 ml10_1 ml10_2)).out) ++ ([(OpOf.mk 0 0 ([]) y_2 : Op)])) y_3 (OpOf.mk 3 0 ([]) y_5 : Op)) ((flushW (Wst.mk rl_10_0 ml10_1 ml10_2)).gone) ((flushW (Wst.mk rl_10_0 ml10_1 ml10_2)).brought))))))))) ∧ ((((OpOf.kind y_1) : Int) == 3) = false → (InR ((x13 : Int) + 1)) ∧ (N0 (head76_0 list l ((x13 : Int) + 1) rl_10_0 ml10_1 ml10_2))))))))))))) ∧ ((decide ((x13 : Int) < (l.length : Int))) = false → (pre107 ((rl_10_0, ml10_1, ml10_2, ()), ())) ∧ ((Q .ret (⟨[(4, .c (.slice (U := U) .op ((flushW (Wst.mk rl_10_0 ml10_1 ml10_2)).out) (.own (.e 4 0))))], [], []⟩ : LSt U)))))) := by kernel_rfl
  exact e_.mpr (by intro y_1 y_2 y_3 y_4 y_5; have hh := h y_1 rfl y_2 rfl y_3 rfl y_4 (reEdit_eq _) y_5 (reEdit_eq _); exact ⟨fun c_5 => ⟨(hh.1 c_5).1, ⟨fun c_6 => ⟨((hh.1 c_5).2.1 c_6).1, ⟨((hh.1 c_5).2.1 c_6).2.1, ((hh.1 c_5).2.1 c_6).2.2⟩⟩, fun c_6 => ⟨fun c_7 => ⟨(((hh.1 c_5).2.2 c_6).1 c_7).1, ⟨(((hh.1 c_5).2.2 c_6).1 c_7).2.1, (((hh.1 c_5).2.2 c_6).1 c_7).2.2⟩⟩, fun c_7 => ⟨fun c_8 => ⟨((((hh.1 c_5).2.2 c_6).2 c_7).1 c_8).1, ⟨((((hh.1 c_5).2.2 c_6).2 c_7).1 c_8).2.1, ((((hh.1 c_5).2.2 c_6).2 c_7).1 c_8).2.2⟩⟩, fun c_8 => ⟨fun c_9 => ⟨(((((hh.1 c_5).2.2 c_6).2 c_7).2 c_8).1 c_9).1, (((((hh.1 c_5).2.2 c_6).2 c_7).2 c_8).1 c_9).2.1, ⟨(((((hh.1 c_5).2.2 c_6).2 c_7).2 c_8).1 c_9).2.2.1, ⟨fun c_10 => ⟨((((((hh.1 c_5).2.2 c_6).2 c_7).2 c_8).1 c_9).2.2.2.1 c_10).1, ⟨((((((hh.1 c_5).2.2 c_6).2 c_7).2 c_8).1 c_9).2.2.2.1 c_10).2.1, ((((((hh.1 c_5).2.2 c_6).2 c_7).2 c_8).1 c_9).2.2.2.1 c_10).2.2⟩⟩, fun c_10 => ⟨((((((hh.1 c_5).2.2 c_6).2 c_7).2 c_8).1 c_9).2.2.2.2 c_10).1, ⟨((((((hh.1 c_5).2.2 c_6).2 c_7).2 c_8).1 c_9).2.2.2.2 c_10).2.1, ((((((hh.1 c_5).2.2 c_6).2 c_7).2 c_8).1 c_9).2.2.2.2 c_10).2.2.1, ((((((hh.1 c_5).2.2 c_6).2 c_7).2 c_8).1 c_9).2.2.2.2 c_10).2.2.2.1, ⟨((((((hh.1 c_5).2.2 c_6).2 c_7).2 c_8).1 c_9).2.2.2.2 c_10).2.2.2.2.1, ((((((hh.1 c_5).2.2 c_6).2 c_7).2 c_8).1 c_9).2.2.2.2 c_10).2.2.2.2.2⟩⟩⟩⟩⟩⟩, fun c_9 => ⟨(((((hh.1 c_5).2.2 c_6).2 c_7).2 c_8).2 c_9).1, (((((hh.1 c_5).2.2 c_6).2 c_7).2 c_8).2 c_9).2⟩⟩⟩⟩⟩⟩, fun c_5 => ⟨(hh.2 c_5).1, (hh.2 c_5).2⟩⟩)
def Body76 (N : Nat) (list : Int) (l : List Op)  : Prop := awp cfg (know (know76 N)) (drawOk cfg (know (know76 N))) Try.f76.ntmps lv76 (cd Try.f76 []) (entry (args76.can (list, l, ())) []) (EndsQ cfg Try.f76.ntmps Try.f76.results.toList (res76 (list, l, ())) [])
abbrev HB76 : Prop := ∀ (N : Nat) (list : Int) (l : List Op) (_ : Unit), pre76 (list, l, ()) → mu76 (list, l, ()) < N + 1 → Body76 N list l

theorem make40_76 (c32 : Contract Try.prog cfg 32 spec32) (c1042 : Contract Try.prog cfg 42 spec1042) (c105 : Contract Try.prog cfg 105 spec105) (c107 : Contract Try.prog cfg 107 spec107) (c2106 : Contract Try.prog cfg 106 spec2106) (ha : HB40) (hb : HB76) : Contract Try.prog cfg 40 spec40 ∧ Contract Try.prog cfg 76 spec76 :=
  contract_mut2 (μA := mu40) (μB := mu76) (l := [(32, spec32), (42, spec1042), (105, spec105), (107, spec107), (106, spec2106)]) cfgOk rfl (⟨c32, c1042, c105, c107, c2106, trivial⟩) lv40 lv76 Try.func40 Try.func76 rfl rfl rfl rfl 1 2 (fun _ => rfl) (fun _ => rfl) (by decide) (by decide) (fun N ⟨e, _⟩ => ha N e ()) (fun N ⟨list, l, _⟩ => hb N list l ())
end Go.AM.Ytlahjnelghpmeaa

namespace Go.AM.Ytlahjnelghpmeaa
open Go.AM Go.Proofs

theorem keepW_len (s : Wst) (n : Int) : (keepW s n).out.length ≤ s.out.length + 3 := by
  have h := flush_len s
  simp only [keepW]
  rw [keepO_at]
  split
  · rw [List.length_set]; omega
  · rw [List.length_append]; simp; omega

theorem keepW_n {s : Wst} {n B K : Int} (hB : 0 ≤ B) (hn : 0 ≤ n ∧ n ≤ K) (h : ∀ o ∈ s.out, 0 ≤ o.n ∧ o.n ≤ B) : ∀ o ∈ (keepW s n).out, 0 ≤ o.n ∧ o.n ≤ B + K := by
  have hF : ∀ o ∈ (flushW s).out, 0 ≤ o.n ∧ o.n ≤ B := by
    intro o ho
    rcases flush_mem s o ho with h1 | h1
    · exact h o h1
    · omega
  intro o ho
  simp only [keepW] at ho
  rw [keepO_at] at ho
  split at ho
  · rename_i hc
    rcases List.mem_or_eq_of_mem_set ho with ho | rfl
    · have := hF o ho; omega
    · have := hF _ (mem_getD (l := (flushW s).out) (i := (flushW s).out.length - 1) (by omega) Op.nil)
      simp only; omega
  · rcases List.mem_append.1 ho with ho | ho
    · have := hF o ho; omega
    · simp only [List.mem_singleton] at ho; subst ho; simp only; omega

theorem nrmKs_lenW : ∀ (l : List Kid), (nrmKs l).length = l.length
  | [] => rfl
  | k :: r => by simp [nrmKs, nrmKs_lenW r]

theorem nrmE_words (e : Edit) : (nrmE e).words.length ≤ e.words.length ∧ (nrmE e).kids.length ≤ e.kids.length := by
  rw [nrmE_at]
  split
  · simp
  · split
    · simp [nrmKs_lenW]
    · split <;> simp

theorem rightOp_keep {list : Int} {o : Op} {d : Int} (h : rightOp list o d = true) (hk : o.kind = 0) : 1 ≤ o.n ∧ o.n ≤ 1048576 := by
  obtain ⟨k, n, l, e⟩ := o
  simp only at hk
  subst hk
  simp [rightOp] at h
  show 1 ≤ n ∧ n ≤ 1048576
  omega

theorem rightOp_desc {list : Int} {o : Op} {d : Int} (h : rightOp list o d = true) (hk : o.kind = 3) : rightE o.e d = true := by
  obtain ⟨k, n, l, e⟩ := o
  simp only at hk
  subst hk
  simp [rightOp] at h
  exact h.2.1.2

theorem kid_right {e : Edit} {d : Int} (h : rightE e d = true) (hk : e.kind = 2) : ∀ k ∈ e.kids, ∃ d, rightE k.e d = true := by
  obtain ⟨k, o, n, w, ks, l, os⟩ := e
  change k = 2 at hk
  subst hk
  have hks : ∃ d last, rightKs last ks d = true := by
    unfold rightE at h
    split at h
    · cases h
    · split at h
      · cases h
      · rw [if_neg (by omega)] at h
        simp only [Bool.and_eq_true] at h
        exact ⟨_, _, h.1.1.1.2⟩
  obtain ⟨d', last, hks⟩ := hks
  change ∀ k ∈ ks, _
  clear h
  induction ks generalizing last with
  | nil => intro k hk; cases hk
  | cons a r ih =>
    simp only [rightKs, Bool.and_eq_true] at hks
    intro k hk
    rcases List.mem_cons.1 hk with rfl | hk
    · obtain ⟨a, e⟩ := k
      simp only [rightKid, Bool.and_eq_true] at hks
      exact ⟨_, hks.1.2⟩
    · exact ih _ hks.2 k hk

theorem op_right {e : Edit} {d : Int} (h : rightE e d = true) (hk : e.kind = 3) : ∀ o ∈ e.ops, ∃ d, rightOp e.list o d = true := by
  obtain ⟨k, o, n, w, ks, l, os⟩ := e
  change k = 3 at hk
  subst hk
  have hos : ∃ d, rightOs l os d = true := by
    unfold rightE at h
    split at h
    · cases h
    · split at h
      · cases h
      · rw [if_neg (by omega)] at h
        simp only [Bool.and_eq_true] at h
        exact ⟨_, h.1.2⟩
  obtain ⟨d', hos⟩ := hos
  change ∀ o ∈ os, ∃ d, rightOp l o d = true
  clear h
  induction os with
  | nil => intro k hk; cases hk
  | cons a r ih =>
    simp only [rightOs, Bool.and_eq_true] at hos
    intro k hk
    rcases List.mem_cons.1 hk with rfl | hk
    · exact ⟨_, hos.1⟩
    · exact ih hos.2 k hk

theorem b76 : HB76 := by
  intro N list l _ hp hN
  simp only [pre76, mu76] at hp hN
  obtain ⟨p1, p3⟩ := hp
  have hl := massOs_len l
  refine vc76 _ _ _ _ ?_
  refine loop_rule (ι := Int × Wst) (fun s => head76_0 list l s.1 s.2.out s.2.gone s.2.brought)
    (fun s => 0 ≤ s.1 ∧ s.1 ≤ l.length ∧ nrmOs list (l.drop s.1.toNat) s.2 = nrmOs list l ⟨[], [], []⟩ ∧ s.2.out.length ≤ 3 * s.1 ∧ s.2.gone.length + s.2.brought.length + massOs (l.drop s.1.toNat) ≤ massOs l ∧ ∀ o ∈ s.2.out, 0 ≤ o.n ∧ o.n ≤ s.1 * 1048576)
    (fun s => ((l.length : Int) - s.1).toNat) (0, ⟨[], [], []⟩) rfl ⟨by simp, by simp, by simp, by simp, by simp, by simp⟩ ?_
  rintro ⟨i, s⟩ ⟨g1, g2, g3, g4, g5, g6⟩
  dsimp only at g1 g2 g3 g4 g5 g6
  refine vc76_l0 _ _ _ _ _ _ _ _ _ ?_
  rintro y1 hy1 y2 hy2 y3 hy3 y4 hy4 y5 hy5
  have hy : y2 = Edit.nil := hy2
  subst hy
  have es : Wst.mk s.out s.gone s.brought = s := rfl
  simp only [es] at hy3 ⊢
  (simp only [bif_tl, bif_fr, bif_tlf, bif_frf, Bool.not_eq_true', Bool.not_eq_false', decide_eq_true_eq, decide_eq_false_iff_not, beq_iff_eq, beq_eq_false_iff_ne, bne_iff_ne, ne_eq, bne_eq_false_iff_eq, Bool.or_eq_true, Bool.and_eq_true, Bool.or_eq_false_iff, Bool.and_eq_false_imp])
  refine ⟨fun hi => ?_, fun hi => ?_⟩
  · have hmem := mem_getD (l := l) (i := i.toNat) (by omega) Op.nil
    have hm := massOs_mem hmem
    have hr := p3 _ hmem
    rw [dropI g1 hi Op.nil] at g3 g5
    rw [← hy1] at g3 g5 hm hr
    have hmo := massOp_e y1
    simp only [nrmOs, nrmOp_at, massOs] at g3 g5
    rw [← hy4, ← hy5] at g3
    obtain ⟨d, hr2⟩ := hr
    have hfl := flush_len s
    have hP : ∀ n : Int, 0 ≤ n ∧ n ≤ 1048576 → pre105 ((s.out, s.gone, s.brought, ()), n, ()) := by
      intro n hn
      simp only [pre105]
      refine ⟨by omega, by omega, by omega, fun o ho => ?_, by omega, by omega⟩
      have := g6 o ho
      constructor
      · omega
      · have : i * 1048576 ≤ 1000000 * 1048576 := by omega
        omega
    have hK : ∀ n : Int, 0 ≤ n ∧ n ≤ 1048576 → nrmOs list (l.drop (i + 1).toNat) (keepW s n) = nrmOs list l ⟨[], [], []⟩ →
        (∃ j : Int × Wst, head76_0 list l (i + 1) (keepW s n).out (keepW s n).gone (keepW s n).brought = head76_0 list l j.1 j.2.out j.2.gone j.2.brought ∧ (0 ≤ j.1 ∧ j.1 ≤ l.length ∧ nrmOs list (l.drop j.1.toNat) j.2 = nrmOs list l ⟨[], [], []⟩ ∧ j.2.out.length ≤ 3 * j.1 ∧ j.2.gone.length + j.2.brought.length + massOs (l.drop j.1.toNat) ≤ massOs l ∧ ∀ o ∈ j.2.out, 0 ≤ o.n ∧ o.n ≤ j.1 * 1048576) ∧ ((l.length : Int) - j.1).toNat < ((l.length : Int) - i).toNat) := by
      intro n hn he
      have h1 := keepW_len s n
      have h2 := keepW_n (s := s) (n := n) (B := i * 1048576) (K := 1048576) (by omega) hn g6
      refine ⟨(i + 1, keepW s n), rfl, ⟨by dsimp only; omega, by dsimp only; omega, he, by dsimp only; omega, by simp only [keepW, List.length_nil]; omega, fun o ho => ?_⟩, by dsimp only; omega⟩
      have := h2 o ho
      dsimp only
      omega
    refine ⟨⟨g1, hi⟩, fun hk => ?_, fun hk => ⟨fun hk1 => ?_, fun hk1 => ⟨fun hk2 => ?_, fun hk2 => ⟨fun hk3 => ?_, fun hk3 => ?_⟩⟩⟩⟩
    · rw [if_pos hk] at g3
      have h1 := rightOp_keep hr2 hk
      exact ⟨hP _ (by omega), by unfold InR; omega, hK _ (by omega) g3⟩
    · rw [if_neg hk, if_pos hk1] at g3
      refine ⟨by simp only [pre106]; omega, by unfold InR; omega, (i + 1, ⟨s.out, s.gone ++ normsT y1.l, s.brought⟩), rfl, ⟨by dsimp only; omega, by dsimp only; omega, g3, by dsimp only; omega, ?_, fun o ho => ?_⟩, by dsimp only; omega⟩
      · have := massK_len y1.l
        simp only [List.length_append, normsT, List.length_map]; omega
      · have := g6 o ho
        dsimp only; omega
    · rw [if_neg hk, if_neg hk1, if_pos hk2] at g3
      refine ⟨by simp only [pre1106]; omega, by unfold InR; omega, (i + 1, ⟨s.out, s.gone, s.brought ++ normsT y1.l⟩), rfl, ⟨by dsimp only; omega, by dsimp only; omega, g3, by dsimp only; omega, ?_, fun o ho => ?_⟩, by dsimp only; omega⟩
      · have := massK_len y1.l
        simp only [List.length_append, normsT, List.length_map]; omega
      · have := g6 o ho
        dsimp only; omega
    · rw [if_neg hk, if_neg hk1, if_neg hk2, if_pos hk3] at g3
      have hre := rightOp_desc hr2 hk3
      rw [← hy4] at hre
      have hw := nrmE_words y4
      rw [← hy5] at hw
      have h1 := len_massE y4
      have h2 := massKs_len y4.kids
      have hmE : massE y4 ≤ massOp y1 := by rw [hmo, hy4]; omega
      refine ⟨by simp only [pre40]; exact ⟨by omega, d, hre⟩, by simp only [mu40]; omega, by simp only [pre1042]; omega, fun hq => ?_, fun hq => ?_⟩
      · rw [if_pos hq] at g3
        exact ⟨hP 1 (by omega), by unfold InR; omega, hK 1 (by omega) g3⟩
      · rw [if_neg (by rw [hq]; simp)] at g3
        rw [hy3, set_last]
        refine ⟨by simp only [pre107]; omega, by simp only [List.length_cons, List.length_nil]; omega, by simp only [List.length_append, List.length_cons, List.length_nil]; omega, by omega, by unfold InR; omega, (i + 1, ⟨(flushW s).out ++ [⟨3, 0, [], y5⟩], [], []⟩), rfl, ⟨by dsimp only; omega, by dsimp only; omega, g3, by simp; omega, by simp; omega, fun o ho => ?_⟩, by dsimp only; omega⟩
        dsimp only at ho ⊢
        rcases List.mem_append.1 ho with ho | ho
        · rcases flush_mem s o ho with h5 | h5
          · have := g6 o h5; omega
          · omega
        · simp only [List.mem_singleton] at ho
          subst ho
          simp only; omega
    · rw [if_neg hk, if_neg hk1, if_neg hk2, if_neg hk3] at g3
      refine ⟨by unfold InR; omega, (i + 1, s), rfl, ⟨by dsimp only; omega, by dsimp only; omega, g3, by dsimp only; omega, by dsimp only; omega, fun o ho => ?_⟩, by dsimp only; omega⟩
      have := g6 o ho
      dsimp only; omega
  · rw [List.drop_of_length_le (by omega)] at g3
    simp only [nrmOs] at g3
    refine ⟨by simp only [pre107]; omega, ?_⟩
    simp only [res76]
    rw [← g3]
    (repeat' (first | exact trivial | exact rfl | refine And.intro ?_ ?_))

theorem b40 : HB40 := by
  intro N e _ hp hN
  simp only [pre40, mu40] at hp hN
  obtain ⟨p1, d, p3⟩ := hp
  have h1 := len_massE e
  have h2 := massKs_len e.kids
  have h3 := massOs_len e.ops
  have ha := nrmE_at e
  refine vc40 _ _ _ ?_
  (simp only [bif_tl, bif_fr, bif_tlf, bif_frf, Bool.not_eq_true', Bool.not_eq_false', decide_eq_true_eq, decide_eq_false_iff_not, beq_iff_eq, beq_eq_false_iff_ne, bne_iff_ne, ne_eq, bne_eq_false_iff_eq, Bool.or_eq_true, Bool.and_eq_true, Bool.or_eq_false_iff, Bool.and_eq_false_imp])
  (simp only [Tree.eta, Edit.eta, Tree.kind_mk, Tree.words_mk, Tree.kids_mk])
  refine ⟨fun hk => ⟨by simp only [pre32]; omega, by simp only [pre32]; omega, ?_⟩, fun hk => ⟨fun hk2 => ⟨by simp; omega, ?_⟩, fun hk2 => ⟨fun hk3 => ⟨?_, by simp only [mu76]; omega, ?_⟩, fun hk3 => ?_⟩⟩⟩
  · rw [if_pos hk] at ha
    simp only [res40, ha]
    (repeat' (first | exact trivial | exact rfl | refine And.intro ?_ ?_))
  · rw [if_neg hk, if_pos hk2] at ha
    refine loop_rule (ι := Int × List Kid) (fun s => head40_0 e s.1 s.2) (fun s => 0 ≤ s.1 ∧ s.1 ≤ e.kids.length ∧ s.2.length = s.1 ∧ s.2 ++ nrmKs (e.kids.drop s.1.toNat) = nrmKs e.kids) (fun s => ((e.kids.length : Int) - s.1).toNat) (0, []) rfl ⟨by simp, by simp, by simp, by simp⟩ ?_
    rintro ⟨j, ks⟩ ⟨f1, f2, f3, f4⟩
    dsimp only at f1 f2 f3 f4
    refine vc40_l0 _ _ _ _ _ _ ?_
    rintro y1 hy1 y2 hy2 y3 hy3
    (simp only [bif_tl, bif_fr, bif_tlf, bif_frf, Bool.not_eq_true', Bool.not_eq_false', decide_eq_true_eq, decide_eq_false_iff_not, beq_iff_eq, beq_eq_false_iff_ne, bne_iff_ne, ne_eq, bne_eq_false_iff_eq, Bool.or_eq_true, Bool.and_eq_true, Bool.or_eq_false_iff, Bool.and_eq_false_imp])
    refine ⟨fun hj => ?_, fun hj => ?_⟩
    · have hmem := mem_getD (l := e.kids) (i := j.toNat) (by omega) (KidOf.mk 0 Edit.nil)
      have hm := massKs_mem hmem
      have hr := kid_right p3 hk2 _ hmem
      rw [dropI f1 hj (KidOf.mk 0 Edit.nil)] at f4
      rw [← hy1] at f4 hm hr
      simp only [nrmKs, nrmKid_at] at f4
      rw [← hy2] at f4 hm hr
      rw [← hy3] at f4
      refine ⟨⟨f1, hj⟩, by simp only [pre40]; exact ⟨by omega, hr⟩, by simp only [mu40]; omega, by simp; omega, by unfold InR; omega, (j + 1, ks ++ [⟨y1.at_, y3⟩]), rfl, ⟨by dsimp only; omega, by dsimp only; omega, by simp; omega, ?_⟩, by dsimp only; omega⟩
      simp only [List.append_assoc, List.cons_append, List.nil_append]
      exact f4
    · rw [List.drop_of_length_le (by omega)] at f4
      simp only [nrmKs, List.append_nil] at f4
      rw [f4]
      simp only [res40, ha]
      (repeat' (first | exact trivial | exact rfl | refine And.intro ?_ ?_))
  · simp only [pre76]
    exact ⟨by omega, fun o ho => op_right p3 hk3 o ho⟩
  · rw [if_neg hk, if_neg hk2, if_pos hk3] at ha
    simp only [res40, ha]
    (repeat' (first | exact trivial | exact rfl | refine And.intro ?_ ?_))
  · rw [if_neg hk, if_neg hk2, if_neg hk3] at ha
    simp only [res40, ha]
    (repeat' (first | exact trivial | exact rfl | refine And.intro ?_ ?_))

theorem c40_76 : Contract Try.prog cfg 40 spec40 ∧ Contract Try.prog cfg 76 spec76 := make40_76 c32 c1042 c105 c107 c2106 b40 b76

end Go.AM.Ytlahjnelghpmeaa

namespace Go.AM.Ytlahjnelghpmeaa
open Go.AM Go.Proofs

def args41 : ArgL (Edit × Unit) := (.cons (aEl .edit) .nil)
def pre41 (a : Edit × Unit) : Prop := massE a.1 ≤ 1000000 ∧ ∃ d, rightE a.1 d = true
def mu41 (a : Edit × Unit) : Nat := 2 * massE a.1
noncomputable def res41 (a : Edit × Unit) : V U := .agg [.int .i64 (Edit.kind (nrmE a.1)), .int .i64 (Tree.kind (Edit.old (nrmE a.1))), .slice (U := U) .u64 (Tree.words (Edit.old (nrmE a.1))) .unk, .slice (U := U) .tree (Tree.kids (Edit.old (nrmE a.1))) .unk, .int .i64 (Tree.kind (Edit.new (nrmE a.1))), .slice (U := U) .u64 (Tree.words (Edit.new (nrmE a.1))) .unk, .slice (U := U) .tree (Tree.kids (Edit.new (nrmE a.1))) .unk, .slice (U := U) .wedit (Edit.words (nrmE a.1)) .unk, .slice (U := U) .kid (Edit.kids (nrmE a.1)) .unk, .int .i64 (Edit.list (nrmE a.1)), .slice (U := U) .op (Edit.ops (nrmE a.1)) .unk]
noncomputable def spec41 : Fs U := fs args41 (fun a => [pre41 a]) res41

def args78 : ArgL (Int × List Op × Unit) := (.cons (aInt .i64) (.cons (aSl .op) .nil))
def pre78 (a : Int × List Op × Unit) : Prop := massOs a.2.1 ≤ 1000000 ∧ ∀ o ∈ a.2.1, ∃ d, rightOp a.1 o d = true
def mu78 (a : Int × List Op × Unit) : Nat := 2 * massOs a.2.1 + 1
noncomputable def res78 (a : Int × List Op × Unit) : V U := .c (.slice (U := U) .op ((flushW (nrmOs a.1 a.2.1 (Wst.mk [] [] []))).out) .unk)
noncomputable def spec78 : Fs U := fs args78 (fun a => [pre78 a]) res78

noncomputable def know41 (N : Nat) : List (FuncId × Fs U) := (41, fs args41 (fun a => [pre41 a, mu41 a < N]) res41) :: (78, fs args78 (fun a => [pre78 a, mu78 a < N]) res78) :: [(31, spec31), (108, spec108), (109, spec1109)]
def lv41 : Lives U := fun i => match i with
  | 0 => ([(1, []), (2, [])], [((.loc 1), []), ((.loc 2), [])])
  | 1 => ([(1, []), (2, []), (6, [])], [((.loc 1), []), ((.loc 2), [])])
  | 2 => ([(1, []), (2, []), (6, []), (7, [])], [((.loc 1), []), ((.loc 2), [])])
  | 3 => ([(2, [])], [((.loc 2), [])])
  | 4 => ([(1, []), (2, []), (6, []), (16, [])], [((.loc 1), []), ((.loc 2), [])])
  | 5 => ([(1, []), (2, []), (3, [])], [((.loc 1), []), ((.loc 2), []), ((.loc 3), [])])
  | 6 => ([(1, []), (2, []), (3, [])], [((.loc 1), []), ((.loc 2), []), ((.loc 3), [])])
  | 7 => ([(1, []), (2, []), (3, []), (4, [])], [((.loc 1), []), ((.loc 2), []), ((.loc 3), [.any, .any, .any, .any, .any, .any, .any, .any, .own .kid])])
  | 8 => ([(1, []), (2, []), (3, []), (4, []), (29, [])], [((.loc 1), []), ((.loc 2), []), ((.loc 3), [])])
  | 9 => ([(1, []), (2, []), (3, []), (4, [])], [((.loc 1), []), ((.loc 2), []), ((.loc 3), [.any, .any, .any, .any, .any, .any, .any, .any, .own .kid])])
  | 10 => ([(1, []), (2, []), (3, []), (4, [])], [((.loc 1), []), ((.loc 2), []), ((.loc 3), [])])
  | 11 => ([(2, [])], [((.loc 2), [])])
  | 12 => ([(1, []), (2, []), (52, [])], [((.loc 1), []), ((.loc 2), [])])
  | 13 => ([(2, [])], [((.loc 2), [])])
  | 14 => ([(2, [])], [((.loc 2), [])])
  | _ => ([], [])
def head41_0 (e : Edit) (x4 : Int) (ml3_8 : List Kid) : LSt U := (⟨[(1, .ptr (.loc 1) 0), (2, .ptr (.loc 2) 0), (3, .ptr (.loc 3) 0), (4, .c (.int .i64 x4))], [((.loc 1), [.int .i64 (Edit.kind e), .int .i64 (Tree.kind (Edit.old e)), .slice (U := U) .u64 (Tree.words (Edit.old e)) .unk, .slice (U := U) .tree (Tree.kids (Edit.old e)) .unk, .int .i64 (Tree.kind (Edit.new e)), .slice (U := U) .u64 (Tree.words (Edit.new e)) .unk, .slice (U := U) .tree (Tree.kids (Edit.new e)) .unk, .slice (U := U) .wedit (Edit.words e) .unk, .slice (U := U) .kid (Edit.kids e) .unk, .int .i64 (Edit.list e), .slice (U := U) .op (Edit.ops e) .unk]), ((.loc 2), [.int .i64 0, .int .i64 0, .nils, .nils, .int .i64 0, .nils, .nils, .nils, .nils, .int .i64 0, .nils]), ((.loc 3), [.int .i64 2, .int .i64 0, .nils, .nils, .int .i64 0, .nils, .nils, .slice (U := U) .wedit (([] : List WEdit) ++ (Edit.words e)) (.own (.l 3 7)), .slice (U := U) .kid ml3_8 (.own (.l 3 8)), .int .i64 0, .nils])], []⟩ : LSt U)
abbrev W41 (N : Nat) (e : Edit) (Q : AExit → LSt U → Prop) : Prop := awp cfg (know (know41 N)) (drawOk cfg (know (know41 N))) Try.f41.ntmps lv41 (cd Try.f41 []) (⟨[(0, .agg [.int .i64 (Edit.kind e), .int .i64 (Tree.kind (Edit.old e)), .slice (U := U) .u64 (Tree.words (Edit.old e)) .unk, .slice (U := U) .tree (Tree.kids (Edit.old e)) .unk, .int .i64 (Tree.kind (Edit.new e)), .slice (U := U) .u64 (Tree.words (Edit.new e)) .unk, .slice (U := U) .tree (Tree.kids (Edit.new e)) .unk, .slice (U := U) .wedit (Edit.words e) .unk, .slice (U := U) .kid (Edit.kids e) .unk, .int .i64 (Edit.list e), .slice (U := U) .op (Edit.ops e) .unk])], [], []⟩ : LSt U) Q
theorem vc41 (N : Nat) (e : Edit) (Q : AExit → LSt U → Prop) (h : ((((Edit.kind e) : Int) == 1) = true → (pre31 ((Tree.mk (Tree.kind (Edit.old e)) (Tree.words (Edit.old e)) (Tree.kids (Edit.old e))), ())) ∧ (pre31 ((Tree.mk (Tree.kind (Edit.new e)) (Tree.words (Edit.new e)) (Tree.kids (Edit.new e))), ())) ∧ (Q .ret (⟨[(2, .ptr (.loc 2) 0)], [((.loc 2), [.int .i64 1, .int .i64 (Tree.kind (normT (Tree.mk (Tree.kind (Edit.old e)) (Tree.words (Edit.old e)) (Tree.kids (Edit.old e))))), .slice (U := U) .u64 (Tree.words (normT (Tree.mk (Tree.kind (Edit.old e)) (Tree.words (Edit.old e)) (Tree.kids (Edit.old e))))) .unk, .slice (U := U) .tree (Tree.kids (normT (Tree.mk (Tree.kind (Edit.old e)) (Tree.words (Edit.old e)) (Tree.kids (Edit.old e))))) .unk, .int .i64 (Tree.kind (normT (Tree.mk (Tree.kind (Edit.new e)) (Tree.words (Edit.new e)) (Tree.kids (Edit.new e))))), .slice (U := U) .u64 (Tree.words (normT (Tree.mk (Tree.kind (Edit.new e)) (Tree.words (Edit.new e)) (Tree.kids (Edit.new e))))) .unk, .slice (U := U) .tree (Tree.kids (normT (Tree.mk (Tree.kind (Edit.new e)) (Tree.words (Edit.new e)) (Tree.kids (Edit.new e))))) .unk, .nils, .nils, .int .i64 0, .nils])], []⟩ : LSt U))) ∧ ((((Edit.kind e) : Int) == 1) = false → ((((Edit.kind e) : Int) == 2) = true → ((([] : List WEdit).length + (Edit.words e).length) * 32 ≤ 140737488355328) ∧ (LoopWp (awp cfg (know (know41 N)) (drawOk cfg (know (know41 N))) Try.f41.ntmps lv41 (cd Try.f41 [1, 0, 1, 0, 1, 1, 1, 0, 1, 1, 0, 1, 0, 0])) (head41_0 e 0 ([])) (AExit.inBlock 1 (seqK cfg (know (know41 N)) (drawOk cfg (know (know41 N))) Try.f41.ntmps lv41 (cd Try.f41 [1, 0, 1, 0, 1, 1, 1, 0, 1, 1, 1]) (AExit.inBlock 0 (seqK cfg (know (know41 N)) (drawOk cfg (know (know41 N))) Try.f41.ntmps lv41 (cd Try.f41 [1, 1]) Q)))))) ∧ ((((Edit.kind e) : Int) == 2) = false → ((((Edit.kind e) : Int) == 3) = true → (pre78 ((Edit.list e), (Edit.ops e), ())) ∧ (mu78 ((Edit.list e), (Edit.ops e), ()) < N) ∧ (Q .ret (⟨[(2, .ptr (.loc 2) 0)], [((.loc 2), [.int .i64 3, .int .i64 0, .nils, .nils, .int .i64 0, .nils, .nils, .nils, .nils, .int .i64 (Edit.list e), .slice (U := U) .op ((flushW (nrmOs (Edit.list e) (Edit.ops e) (Wst.mk [] [] []))).out) .unk])], []⟩ : LSt U))) ∧ ((((Edit.kind e) : Int) == 3) = false → Q .ret (⟨[(2, .ptr (.loc 2) 0)], [((.loc 2), [.int .i64 0, .int .i64 0, .nils, .nils, .int .i64 0, .nils, .nils, .nils, .nils, .int .i64 0, .nils])], []⟩ : LSt U))))) :
    W41 N e Q := by
  have e_ : (W41 N e Q) = ((((((((Edit.kind e) : Int) == 1) = true → (pre31 ((Tree.mk (Tree.kind (Edit.old e)) (Tree.words (Edit.old e)) (Tree.kids (Edit.old e))), ())) ∧ (pre31 ((Tree.mk (Tree.kind (Edit.new e)) (Tree.words (Edit.new e)) (Tree.kids (Edit.new e))), ())) ∧ (Q .ret (⟨[(2, .ptr (.loc 2) 0)], [((.loc 2), [.int .i64 1, .int .i64 (Tree.kind (normT (Tree.mk (Tree.kind (Edit.old e)) (Tree.words (Edit.old e)) (Tree.kids (Edit.old e))))), .slice (U := U) .u64 (Tree.words (normT (Tree.mk (Tree.kind (Edit.old e)) (Tree.words (Edit.old e)) (Tree.kids (Edit.old e))))) .unk, .slice (U := U) .tree (Tree.kids (normT (Tree.mk (Tree.kind (Edit.old e)) (Tree.words (Edit.old e)) (Tree.kids (Edit.old e))))) .unk, .int .i64 (Tree.kind (normT (Tree.mk (Tree.kind (Edit.new e)) (Tree.words (Edit.new e)) (Tree.kids (Edit.new e))))), .slice (U := U) .u64 (Tree.words (normT (Tree.mk (Tree.kind (Edit.new e)) (Tree.words (Edit.new e)) (Tree.kids (Edit.new e))))) .unk, .slice (U := U) .tree (Tree.kids (normT (Tree.mk (Tree.kind (Edit.new e)) (Tree.words (Edit.new e)) (Tree.kids (Edit.new e))))) .unk, .nils, .nils, .int .i64 0, .nils])], []⟩ : LSt U))) ∧ ((((Edit.kind e) : Int) == 1) = false → (((((Edit.kind e) : Int) == 2) = true → (((([] : List WEdit).length + (Edit.words e).length) * 32 ≤ 140737488355328) ∧ ((LoopWp (awp cfg (know (know41 N)) (drawOk cfg (know (know41 N))) Try.f41.ntmps lv41 (cd Try.f41 [1, 0, 1, 0, 1, 1, 1, 0, 1, 1, 0, 1, 0, 0])) (head41_0 e 0 ([])) (AExit.inBlock 1 (seqK cfg (know (know41 N)) (drawOk cfg (know (know41 N))) Try.f41.ntmps lv41 (cd Try.f41 [1, 0, 1, 0, 1, 1, 1, 0, 1, 1, 1]) (AExit.inBlock 0 (seqK cfg (know (know41 N)) (drawOk cfg (know (know41 N))) Try.f41.ntmps lv41 (cd Try.f41 [1, 1]) Q)))))))) ∧ ((((Edit.kind e) : Int) == 2) = false → (((((Edit.kind e) : Int) == 3) = true → (pre78 ((Edit.list e), (Edit.ops e), ())) ∧ (mu78 ((Edit.list e), (Edit.ops e), ()) < N) ∧ (Q .ret (⟨[(2, .ptr (.loc 2) 0)], [((.loc 2), [.int .i64 3, .int .i64 0, .nils, .nils, .int .i64 0, .nils, .nils, .nils, .nils, .int .i64 (Edit.list e), .slice (U := U) .op ((flushW (nrmOs (Edit.list e) (Edit.ops e) (Wst.mk [] [] []))).out) .unk])], []⟩ : LSt U))) ∧ ((((Edit.kind e) : Int) == 3) = false → (Q .ret (⟨[(2, .ptr (.loc 2) 0)], [((.loc 2), [.int .i64 0, .int .i64 0, .nils, .nils, .int .i64 0, .nils, .nils, .nils, .nils, .int .i64 0, .nils])], []⟩ : LSt U))))))))))) := by kernel_rfl
  exact e_.mpr ⟨fun c_1 => ⟨(h.1 c_1).1, (h.1 c_1).2.1, (h.1 c_1).2.2⟩, fun c_1 => ⟨fun c_2 => ⟨((h.2 c_1).1 c_2).1, ((h.2 c_1).1 c_2).2⟩, fun c_2 => ⟨fun c_3 => ⟨(((h.2 c_1).2 c_2).1 c_3).1, (((h.2 c_1).2 c_2).1 c_3).2.1, (((h.2 c_1).2 c_2).1 c_3).2.2⟩, fun c_3 => (((h.2 c_1).2 c_2).2 c_3)⟩⟩⟩
abbrev W41_l0 (N : Nat) (e : Edit) (x4 : Int) (ml3_8 : List Kid) (N0 : LSt U → Prop) (Q : AExit → LSt U → Prop) : Prop := awp cfg (know (know41 N)) (drawOk cfg (know (know41 N))) Try.f41.ntmps lv41 (cd Try.f41 [1, 0, 1, 0, 1, 1, 1, 0, 1, 1, 0, 1, 0, 0]) (head41_0 e x4 ml3_8) (AExit.then N0 (AExit.inBlock 1 (seqK cfg (know (know41 N)) (drawOk cfg (know (know41 N))) Try.f41.ntmps lv41 (cd Try.f41 [1, 0, 1, 0, 1, 1, 1, 0, 1, 1, 1]) (AExit.inBlock 0 (seqK cfg (know (know41 N)) (drawOk cfg (know (know41 N))) Try.f41.ntmps lv41 (cd Try.f41 [1, 1]) Q)))))
theorem vc41_l0 (N : Nat) (e : Edit) (x4 : Int) (ml3_8 : List Kid) (N0 : LSt U → Prop) (Q : AExit → LSt U → Prop) (h : ∀ y_1, y_1 = (List.getD (Edit.kids e) (Int.toNat x4) (KidOf.mk 0 Edit.nil)) → ∀ y_2, y_2 = ((KidOf.e y_1)) → ∀ y_3, y_3 = ((nrmE y_2)) → ((decide ((x4 : Int) < ((Edit.kids e).length : Int))) = true → ((0 : Int) ≤ x4 ∧ x4 < ((Edit.kids e).length : Int)) ∧ ((0 : Int) ≤ x4 ∧ x4 < ((Edit.kids e).length : Int)) ∧ (pre41 (y_2, ())) ∧ (mu41 (y_2, ()) < N) ∧ ((ml3_8.length + ([(KidOf.mk (KidOf.at_ y_1) y_3 : Kid)]).length) * 208 ≤ 140737488355328) ∧ ((InR ((x4 : Int) + 1)) ∧ (N0 (head41_0 e ((x4 : Int) + 1) (ml3_8 ++ ([(KidOf.mk (KidOf.at_ y_1) y_3 : Kid)])))))) ∧ ((decide ((x4 : Int) < ((Edit.kids e).length : Int))) = false → Q .ret (⟨[(2, .ptr (.loc 2) 0)], [((.loc 2), [.int .i64 2, .int .i64 0, .nils, .nils, .int .i64 0, .nils, .nils, .slice (U := U) .wedit (([] : List WEdit) ++ (Edit.words e)) (.own (.l 2 7)), .slice (U := U) .kid ml3_8 (.own (.l 2 8)), .int .i64 0, .nils])], []⟩ : LSt U))) :
    W41_l0 N e x4 ml3_8 N0 Q := by
  have e_ : (W41_l0 N e x4 ml3_8 N0 Q) = (let y_1 := (List.getD (Edit.kids e) (Int.toNat x4) (KidOf.mk 0 Edit.nil)); let y_2 := (reEdit (KidOf.e y_1)); let y_3 := (reEdit (nrmE y_2)); (((decide ((x4 : Int) < ((Edit.kids e).length : Int))) = true → ((0 : Int) ≤ x4 ∧ x4 < ((Edit.kids e).length : Int)) ∧ ((0 : Int) ≤ x4 ∧ x4 < ((Edit.kids e).length : Int)) ∧ (pre41 (y_2, ())) ∧ (mu41 (y_2, ()) < N) ∧ ((ml3_8.length + ([(KidOf.mk (KidOf.at_ y_1) y_3 : Kid)]).length) * 208 ≤ 140737488355328) ∧ ((InR ((x4 : Int) + 1)) ∧ (N0 (head41_0 e ((x4 : Int) + 1) (ml3_8 ++ ([(KidOf.mk (KidOf.at_ y_1) y_3 : Kid)])))))) ∧ ((decide ((x4 : Int) < ((Edit.kids e).length : Int))) = false → (Q .ret (⟨[(2, .ptr (.loc 2) 0)], [((.loc 2), [.int .i64 2, .int .i64 0, .nils, .nils, .int .i64 0, .nils, .nils, .slice (U := U) .wedit (([] : List WEdit) ++ (Edit.words e)) (.own (.l 2 7)), .slice (U := U) .kid ml3_8 (.own (.l 2 8)), .int .i64 0, .nils])], []⟩ : LSt U))))) := by kernel_rfl
  exact e_.mpr (by intro y_1 y_2 y_3; have hh := h y_1 rfl y_2 (reEdit_eq _) y_3 (reEdit_eq _); exact ⟨fun c_4 => ⟨(hh.1 c_4).1, (hh.1 c_4).2.1, (hh.1 c_4).2.2.1, (hh.1 c_4).2.2.2.1, (hh.1 c_4).2.2.2.2.1, ⟨(hh.1 c_4).2.2.2.2.2.1, (hh.1 c_4).2.2.2.2.2.2⟩⟩, fun c_4 => (hh.2 c_4)⟩)
def Body41 (N : Nat) (e : Edit)  : Prop := awp cfg (know (know41 N)) (drawOk cfg (know (know41 N))) Try.f41.ntmps lv41 (cd Try.f41 []) (entry (args41.can (e, ())) []) (EndsQ cfg Try.f41.ntmps Try.f41.results.toList (res41 (e, ())) [])
abbrev HB41 : Prop := ∀ (N : Nat) (e : Edit) (_ : Unit), pre41 (e, ()) → mu41 (e, ()) < N + 1 → Body41 N e

noncomputable def know78 (N : Nat) : List (FuncId × Fs U) := (41, fs args41 (fun a => [pre41 a, mu41 a < N]) res41) :: (78, fs args78 (fun a => [pre78 a, mu78 a < N]) res78) :: [(31, spec31), (108, spec108), (109, spec1109)]
def lv78 : Lives U := fun i => match i with
  | 0 => ([(0, []), (1, [])], [])
  | 1 => ([(0, []), (1, []), (5, [.wr .op])], [])
  | 2 => ([(0, []), (1, []), (5, [.wr .op]), (6, [])], [])
  | 3 => ([(0, []), (1, []), (5, [.wr .op]), (6, []), (16, [])], [])
  | 4 => ([(0, []), (1, []), (5, [.wr .op]), (6, [])], [])
  | 5 => ([(0, []), (1, []), (5, [.wr .op]), (6, []), (7, []), (8, [])], [])
  | 6 => ([(0, []), (1, []), (5, [.wr .op]), (7, []), (8, []), (9, [])], [])
  | 7 => ([(0, []), (1, []), (5, [.wr .op]), (7, []), (8, []), (9, []), (33, [])], [])
  | 8 => ([(0, []), (1, []), (5, [.wr .op]), (8, []), (9, [])], [])
  | 9 => ([(0, []), (1, []), (5, [.wr .op]), (8, []), (9, []), (41, [])], [])
  | 10 => ([(0, []), (1, []), (5, [.wr .op]), (8, []), (9, []), (41, [])], [])
  | 11 => ([(0, []), (1, []), (5, [.wr .op]), (6, [])], [])
  | 12 => ([(0, []), (1, []), (5, [.wr .op]), (6, []), (51, [])], [])
  | 13 => ([(4, [])], [])
  | 14 => ([(0, []), (1, []), (5, [.wr .op]), (6, []), (11, [])], [((.loc 11), [])])
  | 15 => ([(0, []), (1, []), (5, [.wr .op]), (6, []), (11, []), (64, [])], [((.loc 11), [])])
  | 16 => ([(0, []), (1, []), (5, [.wr .op]), (6, []), (11, [])], [((.loc 11), [])])
  | 17 => ([(0, []), (1, []), (5, [.wr .op]), (6, []), (11, []), (75, [])], [((.loc 11), [])])
  | 18 => ([(0, []), (1, []), (5, [.wr .op]), (6, []), (11, [])], [((.loc 11), [])])
  | 19 => ([(0, []), (1, []), (5, [.wr .op]), (6, []), (11, []), (12, [])], [((.loc 11), [])])
  | 20 => ([(0, []), (1, []), (5, [.wr .op]), (6, []), (11, []), (12, []), (94, [])], [((.loc 11), [])])
  | 21 => ([(0, []), (1, []), (5, [.wr .op]), (6, [])], [])
  | 22 => ([(0, []), (1, []), (5, [.wr .op]), (6, [])], [])
  | 23 => ([(4, [])], [])
  | _ => ([], [])
def head78_0 (list : Int) (l : List Op) (x6 : Int) (re_5_0 : List Op) : LSt U := (⟨[(0, .c (.int .i64 list)), (1, .c (.slice (U := U) .op l .unk)), (5, .c (.mref (.e 5 0))), (6, .c (.int .i64 x6))], [], [(.e 5 0, LC.mk (U := U) .op re_5_0 0)]⟩ : LSt U)
def head78_1 (list : Int) (l : List Op) (x6 : Int) (re_5_0_a : List Op) : LSt U := (⟨[(0, .c (.int .i64 list)), (1, .c (.slice (U := U) .op l .unk)), (5, .c (.mref (.e 5 0))), (8, .c (.int .i64 (x6 + gapN ((l).drop (x6).toNat)))), (9, .c (.slice (U := U) .tree (gapT 2 ((l).drop (x6).toNat)) .unk)), (41, .c (.bool (decide ((0 : Int) < ((gapT 2 ((l).drop (x6).toNat)).length : Int)))))], [], [(.e 5 0, LC.mk (U := U) .op re_5_0_a 0)]⟩ : LSt U)
abbrev W78 (N : Nat) (list : Int) (l : List Op) (Q : AExit → LSt U → Prop) : Prop := awp cfg (know (know78 N)) (drawOk cfg (know (know78 N))) Try.f78.ntmps lv78 (cd Try.f78 []) (⟨[(0, .c (.int .i64 list)), (1, .c (.slice (U := U) .op l .unk))], [], []⟩ : LSt U) Q
theorem vc78 (N : Nat) (list : Int) (l : List Op) (Q : AExit → LSt U → Prop) (h : LoopWp (awp cfg (know (know78 N)) (drawOk cfg (know (know78 N))) Try.f78.ntmps lv78 (cd Try.f78 [1, 1, 0, 1, 0, 0])) (head78_0 list l 0 ([])) (AExit.inBlock 0 (seqK cfg (know (know78 N)) (drawOk cfg (know (know78 N))) Try.f78.ntmps lv78 (cd Try.f78 [1, 1, 1]) Q))) :
    W78 N list l Q := by
  have e_ : (W78 N list l Q) = ((((LoopWp (awp cfg (know (know78 N)) (drawOk cfg (know (know78 N))) Try.f78.ntmps lv78 (cd Try.f78 [1, 1, 0, 1, 0, 0])) (head78_0 list l 0 ([])) (AExit.inBlock 0 (seqK cfg (know (know78 N)) (drawOk cfg (know (know78 N))) Try.f78.ntmps lv78 (cd Try.f78 [1, 1, 1]) Q)))))) := by kernel_rfl
  exact e_.mpr h
abbrev W78_l0 (N : Nat) (list : Int) (l : List Op) (x6 : Int) (re_5_0 : List Op) (N0 : LSt U → Prop) (Q : AExit → LSt U → Prop) : Prop := awp cfg (know (know78 N)) (drawOk cfg (know (know78 N))) Try.f78.ntmps lv78 (cd Try.f78 [1, 1, 0, 1, 0, 0]) (head78_0 list l x6 re_5_0) (AExit.then N0 (AExit.inBlock 0 (seqK cfg (know (know78 N)) (drawOk cfg (know (know78 N))) Try.f78.ntmps lv78 (cd Try.f78 [1, 1, 1]) Q)))
theorem vc78_l0 (N : Nat) (list : Int) (l : List Op) (x6 : Int) (re_5_0 : List Op) (N0 : LSt U → Prop) (Q : AExit → LSt U → Prop) (h : ∀ y_1, y_1 = (Edit.mk 0 (Tree.mk 0 ([]) ([])) (Tree.mk 0 ([]) ([])) ([]) ([]) 0 ([])) → ((decide ((x6 : Int) < (l.length : Int))) = true → (pre108 (l, x6, 1, ())) ∧ ((pre108 (l, x6, 2, ())) ∧ (((decide ((0 : Int) < ((gapT 1 ((l).drop (x6).toNat)).length : Int))) = true → ((re_5_0.length + ([(OpOf.mk 1 0 (gapT 1 ((l).drop (x6).toNat)) y_1 : Op)]).length) * 240 ≤ 140737488355328) ∧ (((decide ((0 : Int) < ((gapT 2 ((l).drop (x6).toNat)).length : Int))) = true → (((re_5_0 ++ ([(OpOf.mk 1 0 (gapT 1 ((l).drop (x6).toNat)) y_1 : Op)])).length + ([(OpOf.mk 2 0 (gapT 2 ((l).drop (x6).toNat)) y_1 : Op)]).length) * 240 ≤ 140737488355328) ∧ (awp cfg (know (know78 N)) (drawOk cfg (know (know78 N))) Try.f78.ntmps lv78 (cd Try.f78 [1, 1, 0, 1, 0, 0, 1, 0, 0, 1, 1, 1, 1]) (head78_1 list l x6 ((re_5_0 ++ ([(OpOf.mk 1 0 (gapT 1 ((l).drop (x6).toNat)) y_1 : Op)])) ++ ([(OpOf.mk 2 0 (gapT 2 ((l).drop (x6).toNat)) y_1 : Op)]))) (AExit.inBlock 1 (seqK cfg (know (know78 N)) (drawOk cfg (know (know78 N))) Try.f78.ntmps lv78 (cd Try.f78 [1, 1, 0, 1, 0, 0, 1, 1]) (AExit.then N0 (AExit.inBlock 0 (seqK cfg (know (know78 N)) (drawOk cfg (know (know78 N))) Try.f78.ntmps lv78 (cd Try.f78 [1, 1, 1]) Q))))))) ∧ ((decide ((0 : Int) < ((gapT 2 ((l).drop (x6).toNat)).length : Int))) = false → awp cfg (know (know78 N)) (drawOk cfg (know (know78 N))) Try.f78.ntmps lv78 (cd Try.f78 [1, 1, 0, 1, 0, 0, 1, 0, 0, 1, 1, 1, 1]) (head78_1 list l x6 (re_5_0 ++ ([(OpOf.mk 1 0 (gapT 1 ((l).drop (x6).toNat)) y_1 : Op)]))) (AExit.inBlock 1 (seqK cfg (know (know78 N)) (drawOk cfg (know (know78 N))) Try.f78.ntmps lv78 (cd Try.f78 [1, 1, 0, 1, 0, 0, 1, 1]) (AExit.then N0 (AExit.inBlock 0 (seqK cfg (know (know78 N)) (drawOk cfg (know (know78 N))) Try.f78.ntmps lv78 (cd Try.f78 [1, 1, 1]) Q)))))))) ∧ ((decide ((0 : Int) < ((gapT 1 ((l).drop (x6).toNat)).length : Int))) = false → ((decide ((0 : Int) < ((gapT 2 ((l).drop (x6).toNat)).length : Int))) = true → ((re_5_0.length + ([(OpOf.mk 2 0 (gapT 2 ((l).drop (x6).toNat)) y_1 : Op)]).length) * 240 ≤ 140737488355328) ∧ (awp cfg (know (know78 N)) (drawOk cfg (know (know78 N))) Try.f78.ntmps lv78 (cd Try.f78 [1, 1, 0, 1, 0, 0, 1, 0, 0, 1, 1, 1, 1]) (head78_1 list l x6 (re_5_0 ++ ([(OpOf.mk 2 0 (gapT 2 ((l).drop (x6).toNat)) y_1 : Op)]))) (AExit.inBlock 1 (seqK cfg (know (know78 N)) (drawOk cfg (know (know78 N))) Try.f78.ntmps lv78 (cd Try.f78 [1, 1, 0, 1, 0, 0, 1, 1]) (AExit.then N0 (AExit.inBlock 0 (seqK cfg (know (know78 N)) (drawOk cfg (know (know78 N))) Try.f78.ntmps lv78 (cd Try.f78 [1, 1, 1]) Q))))))) ∧ ((decide ((0 : Int) < ((gapT 2 ((l).drop (x6).toNat)).length : Int))) = false → awp cfg (know (know78 N)) (drawOk cfg (know (know78 N))) Try.f78.ntmps lv78 (cd Try.f78 [1, 1, 0, 1, 0, 0, 1, 0, 0, 1, 1, 1, 1]) (head78_1 list l x6 re_5_0) (AExit.inBlock 1 (seqK cfg (know (know78 N)) (drawOk cfg (know (know78 N))) Try.f78.ntmps lv78 (cd Try.f78 [1, 1, 0, 1, 0, 0, 1, 1]) (AExit.then N0 (AExit.inBlock 0 (seqK cfg (know (know78 N)) (drawOk cfg (know (know78 N))) Try.f78.ntmps lv78 (cd Try.f78 [1, 1, 1]) Q)))))))))) ∧ ((decide ((x6 : Int) < (l.length : Int))) = false → Q .ret (⟨[(4, .c (.slice (U := U) .op re_5_0 (.own (.e 4 0))))], [], []⟩ : LSt U))) :
    W78_l0 N list l x6 re_5_0 N0 Q := by
  have e_ : (W78_l0 N list l x6 re_5_0 N0 Q) = (let y_1 := (Edit.mk 0 (Tree.mk 0 ([]) ([])) (Tree.mk 0 ([]) ([])) ([]) ([]) 0 ([])); (((decide ((x6 : Int) < (l.length : Int))) = true → (pre108 (l, x6, 1, ())) ∧ ((pre108 (l, x6, 2, ())) ∧ ((((decide ((0 : Int) < ((gapT 1 ((l).drop (x6).toNat)).length : Int))) = true → ((re_5_0.length + ([(OpOf.mk 1 0 (gapT 1 ((l).drop (x6).toNat)) y_1 : Op)]).length) * 240 ≤ 140737488355328) ∧ ((((decide ((0 : Int) < ((gapT 2 ((l).drop (x6).toNat)).length : Int))) = true → (((re_5_0 ++ ([(OpOf.mk 1 0 (gapT 1 ((l).drop (x6).toNat)) y_1 : Op)])).length + ([(OpOf.mk 2 0 (gapT 2 ((l).drop (x6).toNat)) y_1 : Op)]).length) * 240 ≤ 140737488355328) ∧ (awp cfg (know (know78 N)) (drawOk cfg (know (know78 N))) Try.f78.ntmps lv78 (cd Try.f78 [1, 1, 0, 1, 0, 0, 1, 0, 0, 1, 1, 1, 1]) (head78_1 list l x6 ((re_5_0 ++ ([(OpOf.mk 1 0 (gapT 1 ((l).drop (x6).toNat)) y_1 : Op)])) ++ ([(OpOf.mk 2 0 (gapT 2 ((l).drop (x6).toNat)) y_1 : Op)]))) (AExit.inBlock 1 (seqK cfg (know (know78 N)) (drawOk cfg (know (know78 N))) Try.f78.ntmps lv78 (cd Try.f78 [1, 1, 0, 1, 0, 0, 1, 1]) (AExit.then N0 (AExit.inBlock 0 (seqK cfg (know (know78 N)) (drawOk cfg (know (know78 N))) Try.f78.ntmps lv78 (cd Try.f78 [1, 1, 1]) Q))))))) ∧ ((decide ((0 : Int) < ((gapT 2 ((l).drop (x6).toNat)).length : Int))) = false → awp cfg (know (know78 N)) (drawOk cfg (know (know78 N))) Try.f78.ntmps lv78 (cd Try.f78 [1, 1, 0, 1, 0, 0, 1, 0, 0, 1, 1, 1, 1]) (head78_1 list l x6 (re_5_0 ++ ([(OpOf.mk 1 0 (gapT 1 ((l).drop (x6).toNat)) y_1 : Op)]))) (AExit.inBlock 1 (seqK cfg (know (know78 N)) (drawOk cfg (know (know78 N))) Try.f78.ntmps lv78 (cd Try.f78 [1, 1, 0, 1, 0, 0, 1, 1]) (AExit.then N0 (AExit.inBlock 0 (seqK cfg (know (know78 N)) (drawOk cfg (know (know78 N))) Try.f78.ntmps lv78 (cd Try.f78 [1, 1, 1]) Q))))))))) ∧ ((decide ((0 : Int) < ((gapT 1 ((l).drop (x6).toNat)).length : Int))) = false → (((decide ((0 : Int) < ((gapT 2 ((l).drop (x6).toNat)).length : Int))) = true → ((re_5_0.length + ([(OpOf.mk 2 0 (gapT 2 ((l).drop (x6).toNat)) y_1 : Op)]).length) * 240 ≤ 140737488355328) ∧ (awp cfg (know (know78 N)) (drawOk cfg (know (know78 N))) Try.f78.ntmps lv78 (cd Try.f78 [1, 1, 0, 1, 0, 0, 1, 0, 0, 1, 1, 1, 1]) (head78_1 list l x6 (re_5_0 ++ ([(OpOf.mk 2 0 (gapT 2 ((l).drop (x6).toNat)) y_1 : Op)]))) (AExit.inBlock 1 (seqK cfg (know (know78 N)) (drawOk cfg (know (know78 N))) Try.f78.ntmps lv78 (cd Try.f78 [1, 1, 0, 1, 0, 0, 1, 1]) (AExit.then N0 (AExit.inBlock 0 (seqK cfg (know (know78 N)) (drawOk cfg (know (know78 N))) Try.f78.ntmps lv78 (cd Try.f78 [1, 1, 1]) Q))))))) ∧ ((decide ((0 : Int) < ((gapT 2 ((l).drop (x6).toNat)).length : Int))) = false → awp cfg (know (know78 N)) (drawOk cfg (know (know78 N))) Try.f78.ntmps lv78 (cd Try.f78 [1, 1, 0, 1, 0, 0, 1, 0, 0, 1, 1, 1, 1]) (head78_1 list l x6 re_5_0) (AExit.inBlock 1 (seqK cfg (know (know78 N)) (drawOk cfg (know (know78 N))) Try.f78.ntmps lv78 (cd Try.f78 [1, 1, 0, 1, 0, 0, 1, 1]) (AExit.then N0 (AExit.inBlock 0 (seqK cfg (know (know78 N)) (drawOk cfg (know (know78 N))) Try.f78.ntmps lv78 (cd Try.f78 [1, 1, 1]) Q)))))))))))) ∧ ((decide ((x6 : Int) < (l.length : Int))) = false → (Q .ret (⟨[(4, .c (.slice (U := U) .op re_5_0 (.own (.e 4 0))))], [], []⟩ : LSt U))))) := by kernel_rfl
  exact e_.mpr (by intro y_1; have hh := h y_1 rfl; exact ⟨fun c_5 => ⟨(hh.1 c_5).1, ⟨(hh.1 c_5).2.1, ⟨fun c_6 => ⟨((hh.1 c_5).2.2.1 c_6).1, ⟨fun c_7 => ⟨(((hh.1 c_5).2.2.1 c_6).2.1 c_7).1, (((hh.1 c_5).2.2.1 c_6).2.1 c_7).2⟩, fun c_7 => (((hh.1 c_5).2.2.1 c_6).2.2 c_7)⟩⟩, fun c_6 => ⟨fun c_8 => ⟨(((hh.1 c_5).2.2.2 c_6).1 c_8).1, (((hh.1 c_5).2.2.2 c_6).1 c_8).2⟩, fun c_8 => (((hh.1 c_5).2.2.2 c_6).2 c_8)⟩⟩⟩⟩, fun c_5 => (hh.2 c_5)⟩)
abbrev W78_c1 (N : Nat) (list : Int) (l : List Op) (x6 : Int) (re_5_0_a : List Op) (N0 : LSt U → Prop) (Q : AExit → LSt U → Prop) : Prop := awp cfg (know (know78 N)) (drawOk cfg (know (know78 N))) Try.f78.ntmps lv78 (cd Try.f78 [1, 1, 0, 1, 0, 0, 1, 0, 0, 1, 1, 1, 1]) (head78_1 list l x6 re_5_0_a) (AExit.inBlock 1 (seqK cfg (know (know78 N)) (drawOk cfg (know (know78 N))) Try.f78.ntmps lv78 (cd Try.f78 [1, 1, 0, 1, 0, 0, 1, 1]) (AExit.then N0 (AExit.inBlock 0 (seqK cfg (know (know78 N)) (drawOk cfg (know (know78 N))) Try.f78.ntmps lv78 (cd Try.f78 [1, 1, 1]) Q)))))
theorem vc78_c1 (N : Nat) (list : Int) (l : List Op) (x6 : Int) (re_5_0_a : List Op) (N0 : LSt U → Prop) (Q : AExit → LSt U → Prop) (h : ∀ y_1, y_1 = (List.getD l (Int.toNat (x6 + gapN ((l).drop (x6).toNat))) Op.nil) → ∀ y_2, y_2 = (Edit.mk 0 (Tree.mk 0 ([]) ([])) (Tree.mk 0 ([]) ([])) ([]) ([]) 0 ([])) → ∀ y_3, y_3 = (List.getD re_5_0_a (Int.toNat (((re_5_0_a.length : Int) : Int) - 1)) Op.nil) → ∀ y_4, y_4 = ((OpOf.e y_1)) → ∀ y_5, y_5 = ((OpOf.e y_3)) → ∀ y_6, y_6 = ((nrmE y_4)) → ((decide (((l.length : Int) : Int) ≤ (x6 + gapN ((l).drop (x6).toNat)))) = true → Q .ret (⟨[(4, .c (.slice (U := U) .op re_5_0_a (.own (.e 4 0))))], [], []⟩ : LSt U)) ∧ ((decide (((l.length : Int) : Int) ≤ (x6 + gapN ((l).drop (x6).toNat)))) = false → ((0 : Int) ≤ (x6 + gapN ((l).drop (x6).toNat)) ∧ (x6 + gapN ((l).drop (x6).toNat)) < (l.length : Int)) ∧ (((0 : Int) ≤ (x6 + gapN ((l).drop (x6).toNat)) ∧ (x6 + gapN ((l).drop (x6).toNat)) < (l.length : Int)) ∧ (((((OpOf.kind y_1) : Int) == 3) = true → ((0 : Int) ≤ (x6 + gapN ((l).drop (x6).toNat)) ∧ (x6 + gapN ((l).drop (x6).toNat)) < (l.length : Int)) ∧ (pre41 (y_4, ())) ∧ (mu41 (y_4, ()) < N) ∧ ((pre1109 (list, y_6, ())) ∧ (((idleE list y_6) = true → ((bif ((0 : Int) == 0) then (decide ((0 : Int) < (re_5_0_a.length : Int))) else false) = true → InR (((re_5_0_a.length : Int) : Int) - 1)) ∧ ((bif ((0 : Int) == 0) then (decide ((0 : Int) < (re_5_0_a.length : Int))) else false) = true → (0 : Int) ≤ (((re_5_0_a.length : Int) : Int) - 1) ∧ (((re_5_0_a.length : Int) : Int) - 1) < (re_5_0_a.length : Int)) ∧ (((bif (bif ((0 : Int) == 0) then (decide ((0 : Int) < (re_5_0_a.length : Int))) else false) then (((OpOf.kind y_3) : Int) == 0) else false) = true → (InR (((re_5_0_a.length : Int) : Int) - 1)) ∧ (InR (((re_5_0_a.length : Int) : Int) - 1)) ∧ ((0 : Int) ≤ (((re_5_0_a.length : Int) : Int) - 1) ∧ (((re_5_0_a.length : Int) : Int) - 1) < (re_5_0_a.length : Int)) ∧ (InR (((OpOf.n y_3) : Int) + 1)) ∧ ((0 : Int) ≤ (((re_5_0_a.length : Int) : Int) - 1) ∧ (((re_5_0_a.length : Int) : Int) - 1) < (re_5_0_a.length : Int)) ∧ ((0 : Nat) ≤ (Int.toNat (((re_5_0_a.length : Int) : Int) - 1))) ∧ ((InR (((x6 + gapN ((l).drop (x6).toNat)) : Int) + 1)) ∧ (N0 (head78_0 list l (((x6 + gapN ((l).drop (x6).toNat)) : Int) + 1) (List.set re_5_0_a (Int.toNat (((re_5_0_a.length : Int) : Int) - 1)) (OpOf.mk (OpOf.kind y_3) (((OpOf.n y_3) : Int) + 1) (OpOf.l y_3) y_5 : Op)))))) ∧ ((bif (bif ((0 : Int) == 0) then (decide ((0 : Int) < (re_5_0_a.length : Int))) else false) then (((OpOf.kind y_3) : Int) == 0) else false) = false → ((re_5_0_a.length + ([(OpOf.mk 0 1 ([]) y_2 : Op)]).length) * 240 ≤ 140737488355328) ∧ ((InR (((x6 + gapN ((l).drop (x6).toNat)) : Int) + 1)) ∧ (N0 (head78_0 list l (((x6 + gapN ((l).drop (x6).toNat)) : Int) + 1) (re_5_0_a ++ ([(OpOf.mk 0 1 ([]) y_2 : Op)])))))))) ∧ ((idleE list y_6) = false → ((bif ((3 : Int) == 0) then (decide ((0 : Int) < (re_5_0_a.length : Int))) else false) = true → InR (((re_5_0_a.length : Int) : Int) - 1)) ∧ ((bif ((3 : Int) == 0) then (decide ((0 : Int) < (re_5_0_a.length : Int))) else false) = true → (0 : Int) ≤ (((re_5_0_a.length : Int) : Int) - 1) ∧ (((re_5_0_a.length : Int) : Int) - 1) < (re_5_0_a.length : Int)) ∧ (((bif (bif ((3 : Int) == 0) then (decide ((0 : Int) < (re_5_0_a.length : Int))) else false) then (((OpOf.kind y_3) : Int) == 0) else false) = true → (InR (((re_5_0_a.length : Int) : Int) - 1)) ∧ (InR (((re_5_0_a.length : Int) : Int) - 1)) ∧ ((0 : Int) ≤ (((re_5_0_a.length : Int) : Int) - 1) ∧ (((re_5_0_a.length : Int) : Int) - 1) < (re_5_0_a.length : Int)) ∧ (InR (((OpOf.n y_3) : Int) + 0)) ∧ ((0 : Int) ≤ (((re_5_0_a.length : Int) : Int) - 1) ∧ (((re_5_0_a.length : Int) : Int) - 1) < (re_5_0_a.length : Int)) ∧ ((0 : Nat) ≤ (Int.toNat (((re_5_0_a.length : Int) : Int) - 1))) ∧ ((InR (((x6 + gapN ((l).drop (x6).toNat)) : Int) + 1)) ∧ (N0 (head78_0 list l (((x6 + gapN ((l).drop (x6).toNat)) : Int) + 1) (List.set re_5_0_a (Int.toNat (((re_5_0_a.length : Int) : Int) - 1)) (OpOf.mk (OpOf.kind y_3) (((OpOf.n y_3) : Int) + 0) (OpOf.l y_3) y_5 : Op)))))) ∧ ((bif (bif ((3 : Int) == 0) then (decide ((0 : Int) < (re_5_0_a.length : Int))) else false) then (((OpOf.kind y_3) : Int) == 0) else false) = false → ((re_5_0_a.length + ([(OpOf.mk 3 0 ([]) y_6 : Op)]).length) * 240 ≤ 140737488355328) ∧ ((InR (((x6 + gapN ((l).drop (x6).toNat)) : Int) + 1)) ∧ (N0 (head78_0 list l (((x6 + gapN ((l).drop (x6).toNat)) : Int) + 1) (re_5_0_a ++ ([(OpOf.mk 3 0 ([]) y_6 : Op)]))))))))))) ∧ ((((OpOf.kind y_1) : Int) == 3) = false → ((bif ((0 : Int) == 0) then (decide ((0 : Int) < (re_5_0_a.length : Int))) else false) = true → InR (((re_5_0_a.length : Int) : Int) - 1)) ∧ ((bif ((0 : Int) == 0) then (decide ((0 : Int) < (re_5_0_a.length : Int))) else false) = true → (0 : Int) ≤ (((re_5_0_a.length : Int) : Int) - 1) ∧ (((re_5_0_a.length : Int) : Int) - 1) < (re_5_0_a.length : Int)) ∧ (((bif (bif ((0 : Int) == 0) then (decide ((0 : Int) < (re_5_0_a.length : Int))) else false) then (((OpOf.kind y_3) : Int) == 0) else false) = true → (InR (((re_5_0_a.length : Int) : Int) - 1)) ∧ (InR (((re_5_0_a.length : Int) : Int) - 1)) ∧ ((0 : Int) ≤ (((re_5_0_a.length : Int) : Int) - 1) ∧ (((re_5_0_a.length : Int) : Int) - 1) < (re_5_0_a.length : Int)) ∧ (InR (((OpOf.n y_3) : Int) + (OpOf.n y_1))) ∧ ((0 : Int) ≤ (((re_5_0_a.length : Int) : Int) - 1) ∧ (((re_5_0_a.length : Int) : Int) - 1) < (re_5_0_a.length : Int)) ∧ ((0 : Nat) ≤ (Int.toNat (((re_5_0_a.length : Int) : Int) - 1))) ∧ ((InR (((x6 + gapN ((l).drop (x6).toNat)) : Int) + 1)) ∧ (N0 (head78_0 list l (((x6 + gapN ((l).drop (x6).toNat)) : Int) + 1) (List.set re_5_0_a (Int.toNat (((re_5_0_a.length : Int) : Int) - 1)) (OpOf.mk (OpOf.kind y_3) (((OpOf.n y_3) : Int) + (OpOf.n y_1)) (OpOf.l y_3) y_5 : Op)))))) ∧ ((bif (bif ((0 : Int) == 0) then (decide ((0 : Int) < (re_5_0_a.length : Int))) else false) then (((OpOf.kind y_3) : Int) == 0) else false) = false → ((re_5_0_a.length + ([(OpOf.mk 0 (OpOf.n y_1) ([]) y_2 : Op)]).length) * 240 ≤ 140737488355328) ∧ ((InR (((x6 + gapN ((l).drop (x6).toNat)) : Int) + 1)) ∧ (N0 (head78_0 list l (((x6 + gapN ((l).drop (x6).toNat)) : Int) + 1) (re_5_0_a ++ ([(OpOf.mk 0 (OpOf.n y_1) ([]) y_2 : Op)])))))))))))) :
    W78_c1 N list l x6 re_5_0_a N0 Q := by
  have e_ : (W78_c1 N list l x6 re_5_0_a N0 Q) = (let y_1 := (List.getD l (Int.toNat (x6 + gapN ((l).drop (x6).toNat))) Op.nil); let y_2 := (Edit.mk 0 (Tree.mk 0 ([]) ([])) (Tree.mk 0 ([]) ([])) ([]) ([]) 0 ([])); let y_3 := (List.getD re_5_0_a (Int.toNat (((re_5_0_a.length : Int) : Int) - 1)) Op.nil); let y_4 := (reEdit (OpOf.e y_1)); let y_5 := (reEdit (OpOf.e y_3)); let y_6 := (reEdit (nrmE y_4)); ((((decide (((l.length : Int) : Int) ≤ (x6 + gapN ((l).drop (x6).toNat)))) = true → (Q .ret (⟨[(4, .c (.slice (U := U) .op re_5_0_a (.own (.e 4 0))))], [], []⟩ : LSt U))) ∧ ((decide (((l.length : Int) : Int) ≤ (x6 + gapN ((l).drop (x6).toNat)))) = false → ((0 : Int) ≤ (x6 + gapN ((l).drop (x6).toNat)) ∧ (x6 + gapN ((l).drop (x6).toNat)) < (l.length : Int)) ∧ (((0 : Int) ≤ (x6 + gapN ((l).drop (x6).toNat)) ∧ (x6 + gapN ((l).drop (x6).toNat)) < (l.length : Int)) ∧ (((((OpOf.kind y_1) : Int) == 3) = true → ((0 : Int) ≤ (x6 + gapN ((l).drop (x6).toNat)) ∧ (x6 + gapN ((l).drop (x6).toNat)) < (l.length : Int)) ∧ (pre41 (y_4, ())) ∧ (mu41 (y_4, ()) < N) ∧ ((pre1109 (list, y_6, ())) ∧ (((idleE list y_6) = true → (((((0 : Int) == 0) = true → ((0 : Int) == 0) = true) ∧ ((((0 : Int) == 0) = true → ((0 : Int) == 0) = true)) ∧ ((bif ((0 : Int) == 0) then (decide ((0 : Int) < (re_5_0_a.length : Int))) else false) = true → (bif ((0 : Int) == 0) then (decide ((0 : Int) < (re_5_0_a.length : Int))) else false) = true) ∧ ((bif ((0 : Int) == 0) then (decide ((0 : Int) < (re_5_0_a.length : Int))) else false) = true → InR (((re_5_0_a.length : Int) : Int) - 1)) ∧ ((bif ((0 : Int) == 0) then (decide ((0 : Int) < (re_5_0_a.length : Int))) else false) = true → (bif ((0 : Int) == 0) then (decide ((0 : Int) < (re_5_0_a.length : Int))) else false) = true) ∧ ((bif ((0 : Int) == 0) then (decide ((0 : Int) < (re_5_0_a.length : Int))) else false) = true → (bif ((0 : Int) == 0) then (decide ((0 : Int) < (re_5_0_a.length : Int))) else false) = true) ∧ ((bif ((0 : Int) == 0) then (decide ((0 : Int) < (re_5_0_a.length : Int))) else false) = true → (0 : Int) ≤ (((re_5_0_a.length : Int) : Int) - 1) ∧ (((re_5_0_a.length : Int) : Int) - 1) < (re_5_0_a.length : Int)) ∧ ((bif ((0 : Int) == 0) then (decide ((0 : Int) < (re_5_0_a.length : Int))) else false) = true → (bif ((0 : Int) == 0) then (decide ((0 : Int) < (re_5_0_a.length : Int))) else false) = true) ∧ ((bif ((0 : Int) == 0) then (decide ((0 : Int) < (re_5_0_a.length : Int))) else false) = true → (bif ((0 : Int) == 0) then (decide ((0 : Int) < (re_5_0_a.length : Int))) else false) = true) ∧ ((bif ((0 : Int) == 0) then (decide ((0 : Int) < (re_5_0_a.length : Int))) else false) = true → (bif ((0 : Int) == 0) then (decide ((0 : Int) < (re_5_0_a.length : Int))) else false) = true) ∧ (((bif ((0 : Int) == 0) then (decide ((0 : Int) < (re_5_0_a.length : Int))) else false) = true → (bif ((0 : Int) == 0) then (decide ((0 : Int) < (re_5_0_a.length : Int))) else false) = true)) ∧ (((bif (bif ((0 : Int) == 0) then (decide ((0 : Int) < (re_5_0_a.length : Int))) else false) then (((OpOf.kind y_3) : Int) == 0) else false) = true → (InR (((re_5_0_a.length : Int) : Int) - 1)) ∧ (InR (((re_5_0_a.length : Int) : Int) - 1)) ∧ ((0 : Int) ≤ (((re_5_0_a.length : Int) : Int) - 1) ∧ (((re_5_0_a.length : Int) : Int) - 1) < (re_5_0_a.length : Int)) ∧ (InR (((OpOf.n y_3) : Int) + 1)) ∧ ((0 : Int) ≤ (((re_5_0_a.length : Int) : Int) - 1) ∧ (((re_5_0_a.length : Int) : Int) - 1) < (re_5_0_a.length : Int)) ∧ ((0 : Nat) ≤ (Int.toNat (((re_5_0_a.length : Int) : Int) - 1))) ∧ ((InR (((x6 + gapN ((l).drop (x6).toNat)) : Int) + 1)) ∧ (N0 (head78_0 list l (((x6 + gapN ((l).drop (x6).toNat)) : Int) + 1) (List.set re_5_0_a (Int.toNat (((re_5_0_a.length : Int) : Int) - 1)) (OpOf.mk (OpOf.kind y_3) (((OpOf.n y_3) : Int) + 1) (OpOf.l y_3) y_5 : Op)))))) ∧ ((bif (bif ((0 : Int) == 0) then (decide ((0 : Int) < (re_5_0_a.length : Int))) else false) then (((OpOf.kind y_3) : Int) == 0) else false) = false → ((re_5_0_a.length + ([(OpOf.mk 0 1 ([]) y_2 : Op)]).length) * 240 ≤ 140737488355328) ∧ ((InR (((x6 + gapN ((l).drop (x6).toNat)) : Int) + 1)) ∧ (N0 (head78_0 list l (((x6 + gapN ((l).drop (x6).toNat)) : Int) + 1) (re_5_0_a ++ ([(OpOf.mk 0 1 ([]) y_2 : Op)])))))))))) ∧ ((idleE list y_6) = false → ((((3 : Int) == 0) = true → ((3 : Int) == 0) = true) ∧ ((((3 : Int) == 0) = true → ((3 : Int) == 0) = true)) ∧ ((bif ((3 : Int) == 0) then (decide ((0 : Int) < (re_5_0_a.length : Int))) else false) = true → (bif ((3 : Int) == 0) then (decide ((0 : Int) < (re_5_0_a.length : Int))) else false) = true) ∧ ((bif ((3 : Int) == 0) then (decide ((0 : Int) < (re_5_0_a.length : Int))) else false) = true → InR (((re_5_0_a.length : Int) : Int) - 1)) ∧ ((bif ((3 : Int) == 0) then (decide ((0 : Int) < (re_5_0_a.length : Int))) else false) = true → (bif ((3 : Int) == 0) then (decide ((0 : Int) < (re_5_0_a.length : Int))) else false) = true) ∧ ((bif ((3 : Int) == 0) then (decide ((0 : Int) < (re_5_0_a.length : Int))) else false) = true → (bif ((3 : Int) == 0) then (decide ((0 : Int) < (re_5_0_a.length : Int))) else false) = true) ∧ ((bif ((3 : Int) == 0) then (decide ((0 : Int) < (re_5_0_a.length : Int))) else false) = true → (0 : Int) ≤ (((re_5_0_a.length : Int) : Int) - 1) ∧ (((re_5_0_a.length : Int) : Int) - 1) < (re_5_0_a.length : Int)) ∧ ((bif ((3 : Int) == 0) then (decide ((0 : Int) < (re_5_0_a.length : Int))) else false) = true → (bif ((3 : Int) == 0) then (decide ((0 : Int) < (re_5_0_a.length : Int))) else false) = true) ∧ ((bif ((3 : Int) == 0) then (decide ((0 : Int) < (re_5_0_a.length : Int))) else false) = true → (bif ((3 : Int) == 0) then (decide ((0 : Int) < (re_5_0_a.length : Int))) else false) = true) ∧ ((bif ((3 : Int) == 0) then (decide ((0 : Int) < (re_5_0_a.length : Int))) else false) = true → (bif ((3 : Int) == 0) then (decide ((0 : Int) < (re_5_0_a.length : Int))) else false) = true) ∧ (((bif ((3 : Int) == 0) then (decide ((0 : Int) < (re_5_0_a.length : Int))) else false) = true → (bif ((3 : Int) == 0) then (decide ((0 : Int) < (re_5_0_a.length : Int))) else false) = true)) ∧ (((bif (bif ((3 : Int) == 0) then (decide ((0 : Int) < (re_5_0_a.length : Int))) else false) then (((OpOf.kind y_3) : Int) == 0) else false) = true → (InR (((re_5_0_a.length : Int) : Int) - 1)) ∧ (InR (((re_5_0_a.length : Int) : Int) - 1)) ∧ ((0 : Int) ≤ (((re_5_0_a.length : Int) : Int) - 1) ∧ (((re_5_0_a.length : Int) : Int) - 1) < (re_5_0_a.length : Int)) ∧ (InR (((OpOf.n y_3) : Int) + 0)) ∧ ((0 : Int) ≤ (((re_5_0_a.length : Int) : Int) - 1) ∧ (((re_5_0_a.length : Int) : Int) - 1) < (re_5_0_a.length : Int)) ∧ ((0 : Nat) ≤ (Int.toNat (((re_5_0_a.length : Int) : Int) - 1))) ∧ ((InR (((x6 + gapN ((l).drop (x6).toNat)) : Int) + 1)) ∧ (N0 (head78_0 list l (((x6 + gapN ((l).drop (x6).toNat)) : Int) + 1) (List.set re_5_0_a (Int.toNat (((re_5_0_a.length : Int) : Int) - 1)) (OpOf.mk (OpOf.kind y_3) (((OpOf.n y_3) : Int) + 0) (OpOf.l y_3) y_5 : Op)))))) ∧ ((bif (bif ((3 : Int) == 0) then (decide ((0 : Int) < (re_5_0_a.length : Int))) else false) then (((OpOf.kind y_3) : Int) == 0) else false) = false → ((re_5_0_a.length + ([(OpOf.mk 3 0 ([]) y_6 : Op)]).length) * 240 ≤ 140737488355328) ∧ ((InR (((x6 + gapN ((l).drop (x6).toNat)) : Int) + 1)) ∧ (N0 (head78_0 list l (((x6 + gapN ((l).drop (x6).toNat)) : Int) + 1) (re_5_0_a ++ ([(OpOf.mk 3 0 ([]) y_6 : Op)])))))))))))) ∧ ((((OpOf.kind y_1) : Int) == 3) = false → ((((0 : Int) == 0) = true → ((0 : Int) == 0) = true) ∧ ((((0 : Int) == 0) = true → ((0 : Int) == 0) = true)) ∧ ((bif ((0 : Int) == 0) then (decide ((0 : Int) < (re_5_0_a.length : Int))) else false) = true → (bif ((0 : Int) == 0) then (decide ((0 : Int) < (re_5_0_a.length : Int))) else false) = true) ∧ ((bif ((0 : Int) == 0) then (decide ((0 : Int) < (re_5_0_a.length : Int))) else false) = true → InR (((re_5_0_a.length : Int) : Int) - 1)) ∧ ((bif ((0 : Int) == 0) then (decide ((0 : Int) < (re_5_0_a.length : Int))) else false) = true → (bif ((0 : Int) == 0) then (decide ((0 : Int) < (re_5_0_a.length : Int))) else false) = true) ∧ ((bif ((0 : Int) == 0) then (decide ((0 : Int) < (re_5_0_a.length : Int))) else false) = true → (bif ((0 : Int) == 0) then (decide ((0 : Int) < (re_5_0_a.length : Int))) else false) = true) ∧ ((bif ((0 : Int) == 0) then (decide ((0 : Int) < (re_5_0_a.length : Int))) else false) = true → (0 : Int) ≤ (((re_5_0_a.length : Int) : Int) - 1) ∧ (((re_5_0_a.length : Int) : Int) - 1) < (re_5_0_a.length : Int)) ∧ ((bif ((0 : Int) == 0) then (decide ((0 : Int) < (re_5_0_a.length : Int))) else false) = true → (bif ((0 : Int) == 0) then (decide ((0 : Int) < (re_5_0_a.length : Int))) else false) = true) ∧ ((bif ((0 : Int) == 0) then (decide ((0 : Int) < (re_5_0_a.length : Int))) else false) = true → (bif ((0 : Int) == 0) then (decide ((0 : Int) < (re_5_0_a.length : Int))) else false) = true) ∧ ((bif ((0 : Int) == 0) then (decide ((0 : Int) < (re_5_0_a.length : Int))) else false) = true → (bif ((0 : Int) == 0) then (decide ((0 : Int) < (re_5_0_a.length : Int))) else false) = true) ∧ (((bif ((0 : Int) == 0) then (decide ((0 : Int) < (re_5_0_a.length : Int))) else false) = true → (bif ((0 : Int) == 0) then (decide ((0 : Int) < (re_5_0_a.length : Int))) else false) = true)) ∧ (((bif (bif ((0 : Int) == 0) then (decide ((0 : Int) < (re_5_0_a.length : Int))) else false) then (((OpOf.kind y_3) : Int) == 0) else false) = true → (InR (((re_5_0_a.length : Int) : Int) - 1)) ∧ (InR (((re_5_0_a.length : Int) : Int) - 1)) ∧ ((0 : Int) ≤ (((re_5_0_a.length : Int) : Int) - 1) ∧ (((re_5_0_a.length : Int) : Int) - 1) < (re_5_0_a.length : Int)) ∧ (InR (((OpOf.n y_3) : Int) + (OpOf.n y_1))) ∧ ((0 : Int) ≤ (((re_5_0_a.length : Int) : Int) - 1) ∧ (((re_5_0_a.length : Int) : Int) - 1) < (re_5_0_a.length : Int)) ∧ ((0 : Nat) ≤ (Int.toNat (((re_5_0_a.length : Int) : Int) - 1))) ∧ ((InR (((x6 + gapN ((l).drop (x6).toNat)) : Int) + 1)) ∧ (N0 (head78_0 list l (((x6 + gapN ((l).drop (x6).toNat)) : Int) + 1) (List.set re_5_0_a (Int.toNat (((re_5_0_a.length : Int) : Int) - 1)) (OpOf.mk (OpOf.kind y_3) (((OpOf.n y_3) : Int) + (OpOf.n y_1)) (OpOf.l y_3) y_5 : Op)))))) ∧ ((bif (bif ((0 : Int) == 0) then (decide ((0 : Int) < (re_5_0_a.length : Int))) else false) then (((OpOf.kind y_3) : Int) == 0) else false) = false → ((re_5_0_a.length + ([(OpOf.mk 0 (OpOf.n y_1) ([]) y_2 : Op)]).length) * 240 ≤ 140737488355328) ∧ ((InR (((x6 + gapN ((l).drop (x6).toNat)) : Int) + 1)) ∧ (N0 (head78_0 list l (((x6 + gapN ((l).drop (x6).toNat)) : Int) + 1) (re_5_0_a ++ ([(OpOf.mk 0 (OpOf.n y_1) ([]) y_2 : Op)]))))))))))))))) := by kernel_rfl
  exact e_.mpr (by intro y_1 y_2 y_3 y_4 y_5 y_6; have hh := h y_1 rfl y_2 rfl y_3 rfl y_4 (reEdit_eq _) y_5 (reEdit_eq _) y_6 (reEdit_eq _); exact ⟨fun c_9 => (hh.1 c_9), fun c_9 => ⟨(hh.2 c_9).1, ⟨(hh.2 c_9).2.1, ⟨fun c_10 => ⟨((hh.2 c_9).2.2.1 c_10).1, ((hh.2 c_9).2.2.1 c_10).2.1, ((hh.2 c_9).2.2.1 c_10).2.2.1, ⟨((hh.2 c_9).2.2.1 c_10).2.2.2.1, ⟨fun c_11 => ⟨fun x => x, (by generalize ((0 : Int) == 0) = b0; revert b0; decide), fun x => x, (((hh.2 c_9).2.2.1 c_10).2.2.2.2.1 c_11).1, fun x => x, fun x => x, (((hh.2 c_9).2.2.1 c_10).2.2.2.2.1 c_11).2.1, fun x => x, fun x => x, fun x => x, (by generalize (decide ((0 : Int) < (re_5_0_a.length : Int))) = b0; generalize ((0 : Int) == 0) = b1; revert b0 b1; decide), ⟨fun c_12 => ⟨((((hh.2 c_9).2.2.1 c_10).2.2.2.2.1 c_11).2.2.1 c_12).1, ((((hh.2 c_9).2.2.1 c_10).2.2.2.2.1 c_11).2.2.1 c_12).2.1, ((((hh.2 c_9).2.2.1 c_10).2.2.2.2.1 c_11).2.2.1 c_12).2.2.1, ((((hh.2 c_9).2.2.1 c_10).2.2.2.2.1 c_11).2.2.1 c_12).2.2.2.1, ((((hh.2 c_9).2.2.1 c_10).2.2.2.2.1 c_11).2.2.1 c_12).2.2.2.2.1, ((((hh.2 c_9).2.2.1 c_10).2.2.2.2.1 c_11).2.2.1 c_12).2.2.2.2.2.1, ⟨((((hh.2 c_9).2.2.1 c_10).2.2.2.2.1 c_11).2.2.1 c_12).2.2.2.2.2.2.1, ((((hh.2 c_9).2.2.1 c_10).2.2.2.2.1 c_11).2.2.1 c_12).2.2.2.2.2.2.2⟩⟩, fun c_12 => ⟨((((hh.2 c_9).2.2.1 c_10).2.2.2.2.1 c_11).2.2.2 c_12).1, ⟨((((hh.2 c_9).2.2.1 c_10).2.2.2.2.1 c_11).2.2.2 c_12).2.1, ((((hh.2 c_9).2.2.1 c_10).2.2.2.2.1 c_11).2.2.2 c_12).2.2⟩⟩⟩⟩, fun c_11 => ⟨fun x => x, (by generalize ((3 : Int) == 0) = b0; revert b0; decide), fun x => x, (((hh.2 c_9).2.2.1 c_10).2.2.2.2.2 c_11).1, fun x => x, fun x => x, (((hh.2 c_9).2.2.1 c_10).2.2.2.2.2 c_11).2.1, fun x => x, fun x => x, fun x => x, (by generalize (decide ((0 : Int) < (re_5_0_a.length : Int))) = b0; generalize ((3 : Int) == 0) = b1; revert b0 b1; decide), ⟨fun c_13 => ⟨((((hh.2 c_9).2.2.1 c_10).2.2.2.2.2 c_11).2.2.1 c_13).1, ((((hh.2 c_9).2.2.1 c_10).2.2.2.2.2 c_11).2.2.1 c_13).2.1, ((((hh.2 c_9).2.2.1 c_10).2.2.2.2.2 c_11).2.2.1 c_13).2.2.1, ((((hh.2 c_9).2.2.1 c_10).2.2.2.2.2 c_11).2.2.1 c_13).2.2.2.1, ((((hh.2 c_9).2.2.1 c_10).2.2.2.2.2 c_11).2.2.1 c_13).2.2.2.2.1, ((((hh.2 c_9).2.2.1 c_10).2.2.2.2.2 c_11).2.2.1 c_13).2.2.2.2.2.1, ⟨((((hh.2 c_9).2.2.1 c_10).2.2.2.2.2 c_11).2.2.1 c_13).2.2.2.2.2.2.1, ((((hh.2 c_9).2.2.1 c_10).2.2.2.2.2 c_11).2.2.1 c_13).2.2.2.2.2.2.2⟩⟩, fun c_13 => ⟨((((hh.2 c_9).2.2.1 c_10).2.2.2.2.2 c_11).2.2.2 c_13).1, ⟨((((hh.2 c_9).2.2.1 c_10).2.2.2.2.2 c_11).2.2.2 c_13).2.1, ((((hh.2 c_9).2.2.1 c_10).2.2.2.2.2 c_11).2.2.2 c_13).2.2⟩⟩⟩⟩⟩⟩⟩, fun c_10 => ⟨fun x => x, (by generalize ((0 : Int) == 0) = b0; revert b0; decide), fun x => x, ((hh.2 c_9).2.2.2 c_10).1, fun x => x, fun x => x, ((hh.2 c_9).2.2.2 c_10).2.1, fun x => x, fun x => x, fun x => x, (by generalize (decide ((0 : Int) < (re_5_0_a.length : Int))) = b0; generalize ((0 : Int) == 0) = b1; revert b0 b1; decide), ⟨fun c_14 => ⟨(((hh.2 c_9).2.2.2 c_10).2.2.1 c_14).1, (((hh.2 c_9).2.2.2 c_10).2.2.1 c_14).2.1, (((hh.2 c_9).2.2.2 c_10).2.2.1 c_14).2.2.1, (((hh.2 c_9).2.2.2 c_10).2.2.1 c_14).2.2.2.1, (((hh.2 c_9).2.2.2 c_10).2.2.1 c_14).2.2.2.2.1, (((hh.2 c_9).2.2.2 c_10).2.2.1 c_14).2.2.2.2.2.1, ⟨(((hh.2 c_9).2.2.2 c_10).2.2.1 c_14).2.2.2.2.2.2.1, (((hh.2 c_9).2.2.2 c_10).2.2.1 c_14).2.2.2.2.2.2.2⟩⟩, fun c_14 => ⟨(((hh.2 c_9).2.2.2 c_10).2.2.2 c_14).1, ⟨(((hh.2 c_9).2.2.2 c_10).2.2.2 c_14).2.1, (((hh.2 c_9).2.2.2 c_10).2.2.2 c_14).2.2⟩⟩⟩⟩⟩⟩⟩⟩)
def Body78 (N : Nat) (list : Int) (l : List Op)  : Prop := awp cfg (know (know78 N)) (drawOk cfg (know (know78 N))) Try.f78.ntmps lv78 (cd Try.f78 []) (entry (args78.can (list, l, ())) []) (EndsQ cfg Try.f78.ntmps Try.f78.results.toList (res78 (list, l, ())) [])
abbrev HB78 : Prop := ∀ (N : Nat) (list : Int) (l : List Op) (_ : Unit), pre78 (list, l, ()) → mu78 (list, l, ()) < N + 1 → Body78 N list l

theorem make41_78 (c31 : Contract Try.prog cfg 31 spec31) (c108 : Contract Try.prog cfg 108 spec108) (c1109 : Contract Try.prog cfg 109 spec1109) (ha : HB41) (hb : HB78) : Contract Try.prog cfg 41 spec41 ∧ Contract Try.prog cfg 78 spec78 :=
  contract_mut2 (μA := mu41) (μB := mu78) (l := [(31, spec31), (108, spec108), (109, spec1109)]) cfgOk rfl (⟨c31, c108, c1109, trivial⟩) lv41 lv78 Try.func41 Try.func78 rfl rfl rfl rfl 1 2 (fun _ => rfl) (fun _ => rfl) (by decide) (by decide) (fun N ⟨e, _⟩ => ha N e ()) (fun N ⟨list, l, _⟩ => hb N list l ())
end Go.AM.Ytlahjnelghpmeaa

namespace Go.AM.Ytlahjnelghpmeaa
open Go.AM Go.Proofs

theorem gapN_stop : ∀ (l : List Op), 0 ≤ gapN l ∧ (gapN l < l.length → (l.getD (gapN l).toNat Op.nil).kind ≠ 1 ∧ (l.getD (gapN l).toNat Op.nil).kind ≠ 2)
  | [] => by simp [gapN]
  | o :: r => by
    obtain ⟨h1, h2⟩ := gapN_stop r
    rw [gapN]
    split
    · rename_i hk
      refine ⟨by omega, fun h => ?_⟩
      rw [show (1 + gapN r).toNat = (gapN r).toNat + 1 by omega, List.getD_cons_succ]
      exact h2 (by simp at h; omega)
    · rename_i hk
      refine ⟨by omega, fun _ => ?_⟩
      simp only [Int.toNat_zero, List.getD_cons_zero]
      omega

theorem gapN_le : ∀ (l : List Op), gapN l ≤ l.length
  | [] => by simp [gapN]
  | o :: r => by
    have := gapN_le r
    rw [gapN]
    split <;> simp <;> omega

theorem getD_dropA (l : List Op) (i k : Nat) : (l.drop i).getD k Op.nil = l.getD (i + k) Op.nil := by
  simp [List.getD, List.getElem?_drop]

theorem rightOp_kind {list : Int} {o : Op} {d : Int} (h : rightOp list o d = true) : o.kind = 0 ∨ o.kind = 1 ∨ o.kind = 2 ∨ o.kind = 3 := by
  obtain ⟨k, n, l, e⟩ := o
  show k = 0 ∨ k = 1 ∨ k = 2 ∨ k = 3
  rw [rightOp] at h
  split at h
  · omega
  · split at h
    · cases h
    · omega

theorem b78 : HB78 := by
  intro N list l _ hp hN
  simp only [pre78, mu78] at hp hN
  obtain ⟨p1, p3⟩ := hp
  have hl := massOs_len l
  refine vc78 _ _ _ _ ?_
  refine loop_rule (ι := Int × List Op) (fun s => head78_0 list l s.1 s.2)
    (fun s => 0 ≤ s.1 ∧ s.1 ≤ l.length ∧ (flushW (nrmOs list (l.drop s.1.toNat) ⟨s.2, [], []⟩)).out = (flushW (nrmOs list l ⟨[], [], []⟩)).out ∧ s.2.length ≤ 3 * s.1 ∧ ∀ o ∈ s.2, 0 ≤ o.n ∧ o.n ≤ s.1 * 1048576)
    (fun s => ((l.length : Int) - s.1).toNat) (0, []) rfl ⟨by simp, by simp, by simp, by simp, by simp⟩ ?_
  rintro ⟨i, out⟩ ⟨g1, g2, g3, g4, g6⟩
  dsimp only at g1 g2 g3 g4 g6
  have key : i < l.length → ∀ F, F = (flushW ⟨out, gapT 1 (l.drop i.toNat), gapT 2 (l.drop i.toNat)⟩).out →
      W78_c1 N list l i F (fun s2 => ∃ j : Int × List Op, s2 = head78_0 list l j.1 j.2 ∧ (0 ≤ j.1 ∧ j.1 ≤ l.length ∧ (flushW (nrmOs list (l.drop j.1.toNat) ⟨j.2, [], []⟩)).out = (flushW (nrmOs list l ⟨[], [], []⟩)).out ∧ j.2.length ≤ 3 * j.1 ∧ ∀ o ∈ j.2, 0 ≤ o.n ∧ o.n ≤ j.1 * 1048576) ∧ ((l.length : Int) - j.1).toNat < ((l.length : Int) - i).toNat) (EndsQ cfg Try.f78.ntmps Try.f78.results.toList (res78 (list, l, ())) []) := by
    intro hi F hF
    obtain ⟨q1, q2⟩ := gapN_stop (l.drop i.toNat)
    have q3 := gapN_le (l.drop i.toNat)
    rw [List.length_drop] at q2 q3
    rw [getD_dropA, show i.toNat + (gapN (l.drop i.toNat)).toNat = (i + gapN (l.drop i.toNat)).toNat by omega] at q2
    rw [nrmOs_gap, List.drop_drop, show i.toNat + (gapN (l.drop i.toNat)).toNat = (i + gapN (l.drop i.toNat)).toNat by omega] at g3
    simp only [List.nil_append] at g3
    have hfl := flush_len ⟨out, gapT 1 (l.drop i.toNat), gapT 2 (l.drop i.toNat)⟩
    have hfm := flush_mem ⟨out, gapT 1 (l.drop i.toNat), gapT 2 (l.drop i.toNat)⟩
    have hflush : flushW ⟨out, gapT 1 (l.drop i.toNat), gapT 2 (l.drop i.toNat)⟩ = ⟨F, [], []⟩ := by rw [hF]; rfl
    have hkeep : ∀ n, keepW ⟨out, gapT 1 (l.drop i.toNat), gapT 2 (l.drop i.toNat)⟩ n = ⟨keepO F n, [], []⟩ := by intro n; rw [hF]; rfl
    rw [← hF] at hfl hfm
    simp only at hfl hfm
    refine vc78_c1 _ _ _ _ _ _ _ ?_
    rintro y1 hy1 y2 hy2 y3 hy3 y4 hy4 y5 hy5 y6 hy6
    generalize hj : i + gapN (l.drop i.toNat) = j at *
    have hy : y2 = Edit.nil := hy2
    subst hy
    have hFn : ∀ o ∈ F, 0 ≤ o.n ∧ o.n ≤ i * 1048576 := by
      intro o ho
      rcases hfm o ho with h1 | h1
      · exact g6 o h1
      · omega
    simp only [show ((0 : Int) == 0) = true from rfl, show ((3 : Int) == 0) = false from rfl, cond_true, cond_false]
    (simp only [bif_tl, bif_fr, bif_tlf, bif_frf, Bool.not_eq_true', Bool.not_eq_false', decide_eq_true_eq, decide_eq_false_iff_not, beq_iff_eq, beq_eq_false_iff_ne, bne_iff_ne, ne_eq, bne_eq_false_iff_eq, Bool.or_eq_true, Bool.and_eq_true, Bool.or_eq_false_iff, Bool.and_eq_false_imp])
    refine ⟨fun hjl => ?_, fun hjl => ?_⟩
    · rw [List.drop_of_length_le (by omega)] at g3
      simp only [nrmOs, hflush] at g3
      simp only [res78]
      rw [← g3]
      (repeat' (first | exact trivial | exact rfl | refine And.intro ?_ ?_))
    · have hmem := mem_getD (l := l) (i := j.toNat) (by omega) Op.nil
      have hm := massOs_mem hmem
      obtain ⟨d, hr2⟩ := p3 _ hmem
      have hq := q2 (by omega)
      rw [← hy1] at hm hr2 hq
      have hkind := rightOp_kind hr2
      rw [dropI (by omega) (by omega) Op.nil, ← hy1, nrmOs, nrmOp_at] at g3
      have hmo := massOp_e y1
      have hlast : (F.length : Int) - 1 = ((F.length - 1 : Nat) : Int) ∨ F.length = 0 := by omega
      have e2 : ((F.length : Int) - 1).toNat = F.length - 1 := by omega
      rw [e2] at hy3 ⊢
      have hk3 : 0 < F.length → 0 ≤ y3.n ∧ y3.n ≤ i * 1048576 := fun h => by
        rw [hy3]; exact hFn _ (mem_getD (by omega) _)
      have keeps : ∀ n : Int, 0 ≤ n ∧ n ≤ 1048576 → (flushW (nrmOs list (l.drop (j + 1).toNat) ⟨keepO F n, [], []⟩)).out = (flushW (nrmOs list l ⟨[], [], []⟩)).out →
          ((0 < F.length ∧ y3.kind = 0 → ∃ q : Int × List Op, head78_0 list l (j + 1) (F.set (F.length - 1) ⟨y3.kind, y3.n + n, y3.l, y5⟩) = head78_0 list l q.1 q.2 ∧ (0 ≤ q.1 ∧ q.1 ≤ l.length ∧ (flushW (nrmOs list (l.drop q.1.toNat) ⟨q.2, [], []⟩)).out = (flushW (nrmOs list l ⟨[], [], []⟩)).out ∧ q.2.length ≤ 3 * q.1 ∧ ∀ o ∈ q.2, 0 ≤ o.n ∧ o.n ≤ q.1 * 1048576) ∧ ((l.length : Int) - q.1).toNat < ((l.length : Int) - i).toNat) ∧
           (¬ (0 < F.length ∧ y3.kind = 0) → ∃ q : Int × List Op, head78_0 list l (j + 1) (F ++ [⟨0, n, [], Edit.nil⟩]) = head78_0 list l q.1 q.2 ∧ (0 ≤ q.1 ∧ q.1 ≤ l.length ∧ (flushW (nrmOs list (l.drop q.1.toNat) ⟨q.2, [], []⟩)).out = (flushW (nrmOs list l ⟨[], [], []⟩)).out ∧ q.2.length ≤ 3 * q.1 ∧ ∀ o ∈ q.2, 0 ≤ o.n ∧ o.n ≤ q.1 * 1048576) ∧ ((l.length : Int) - q.1).toNat < ((l.length : Int) - i).toNat)) := by
        intro n hn hg
        rw [keepO_at, ← hy3, ← hy5] at hg
        refine ⟨fun hc => ?_, fun hc => ?_⟩
        · rw [if_pos ⟨by omega, hc.2⟩] at hg
          refine ⟨(j + 1, _), rfl, ⟨by dsimp only; omega, by dsimp only; omega, hg, by dsimp only; rw [List.length_set]; omega, fun o ho => ?_⟩, by dsimp only; omega⟩
          dsimp only at ho ⊢
          have hk4 := hk3 (by omega)
          rcases List.mem_or_eq_of_mem_set ho with ho | rfl
          · have := hFn o ho; omega
          · simp only; omega
        · rw [if_neg (fun h => hc ⟨by omega, h.2⟩)] at hg
          refine ⟨(j + 1, _), rfl, ⟨by dsimp only; omega, by dsimp only; omega, hg, by dsimp only; rw [List.length_append, List.length_singleton]; omega, fun o ho => ?_⟩, by dsimp only; omega⟩
          dsimp only at ho ⊢
          rcases List.mem_append.1 ho with ho | ho
          · have := hFn o ho; omega
          · simp only [List.mem_singleton] at ho
            subst ho
            simp only; omega
      refine ⟨by omega, by omega, fun hk => ?_, fun hk => ?_⟩
      · rw [if_neg (by omega), if_neg (by omega), if_neg (by omega), if_pos hk] at g3
        rw [← hy4, ← hy6, hkeep, hflush] at g3
        have hre := rightOp_desc hr2 hk
        rw [← hy4] at hre
        have hmE : massE y4 ≤ massOp y1 := by rw [hmo, hy4]; omega
        refine ⟨by omega, by simp only [pre41]; exact ⟨by omega, d, hre⟩, by simp only [mu41]; omega, by simp only [pre1109], fun hq => ?_, fun hq => ?_⟩
        · rw [if_pos hq] at g3
          have hK := keeps 1 (by omega) g3
          refine ⟨by unfold InR; omega, by omega, fun hc => ?_, fun hc => ?_⟩
          · have hk4 := hk3 (by omega)
            exact ⟨by unfold InR; omega, by unfold InR; omega, by omega, by unfold InR; omega, by omega, by omega, by unfold InR; omega, hK.1 ⟨by omega, hc.2⟩⟩
          · exact ⟨by simp only [List.length_singleton]; omega, by unfold InR; omega, hK.2 (fun h => by omega)⟩
        · rw [if_neg (by rw [hq]; simp)] at g3
          refine ⟨fun h => (nomatch h), fun h => (nomatch h), fun h => (nomatch h), fun _ => ⟨by simp only [List.length_singleton]; omega, by unfold InR; omega, (j + 1, F ++ [⟨3, 0, [], y6⟩]), rfl, ⟨by dsimp only; omega, by dsimp only; omega, g3, by dsimp only; rw [List.length_append, List.length_singleton]; omega, fun o ho => ?_⟩, by dsimp only; omega⟩⟩
          dsimp only at ho ⊢
          rcases List.mem_append.1 ho with ho | ho
          · have := hFn o ho; omega
          · simp only [List.mem_singleton] at ho
            subst ho
            simp only; omega
      · have hk0 : y1.kind = 0 := by omega
        rw [if_pos hk0, hkeep] at g3
        have h1 := rightOp_keep hr2 hk0
        have hK := keeps y1.n (by omega) g3
        refine ⟨by unfold InR; omega, by omega, fun hc => ?_, fun hc => ?_⟩
        · have hk4 := hk3 (by omega)
          exact ⟨by unfold InR; omega, by unfold InR; omega, by omega, by unfold InR; omega, by omega, by omega, by unfold InR; omega, hK.1 ⟨by omega, hc.2⟩⟩
        · exact ⟨by simp only [List.length_singleton]; omega, by unfold InR; omega, hK.2 (fun h => by omega)⟩
  refine vc78_l0 _ _ _ _ _ _ _ ?_
  rintro y1 hy1
  have hy : y1 = Edit.nil := hy1
  subst hy
  (simp only [bif_tl, bif_fr, bif_tlf, bif_frf, Bool.not_eq_true', Bool.not_eq_false', decide_eq_true_eq, decide_eq_false_iff_not, beq_iff_eq, beq_eq_false_iff_ne, bne_iff_ne, ne_eq, bne_eq_false_iff_eq, Bool.or_eq_true, Bool.and_eq_true, Bool.or_eq_false_iff, Bool.and_eq_false_imp])
  refine ⟨fun hi => ?_, fun hi => ?_⟩
  · have kk := key hi
    simp only [flushW, flushO] at kk
    refine ⟨by simp only [pre108]; omega, by simp only [pre108]; omega, fun h1 => ⟨by simp only [List.length_singleton]; omega, fun h2 => ⟨by simp only [List.length_append, List.length_singleton]; omega, ?_⟩, fun h2 => ?_⟩, fun h1 => ⟨fun h2 => ⟨by simp only [List.length_singleton]; omega, ?_⟩, fun h2 => ?_⟩⟩
    · refine kk _ ?_
      rw [if_neg (by omega), if_neg (by omega)]; simp
    · refine kk _ ?_
      rw [if_neg (by omega), if_pos (by omega)]; simp
    · refine kk _ ?_
      rw [if_pos (by omega), if_neg (by omega)]; simp
    · refine kk _ ?_
      rw [if_pos (by omega), if_pos (by omega)]; simp
  · rw [List.drop_of_length_le (by omega)] at g3
    have : (flushW (nrmOs list [] ⟨out, [], []⟩)).out = out := by simp [nrmOs, flushW, flushO]
    rw [this] at g3
    simp only [res78]
    rw [← g3]
    (repeat' (first | exact trivial | exact rfl | refine And.intro ?_ ?_))

theorem right_kind {e : Edit} {d : Int} (h : rightE e d = true) : (e.kind = 0 ∨ e.kind = 1 ∨ e.kind = 2 ∨ e.kind = 3) ∧ (e.kind ≠ 3 → e.list = 0) := by
  obtain ⟨k, o, n, w, ks, l, os⟩ := e
  show (k = 0 ∨ k = 1 ∨ k = 2 ∨ k = 3) ∧ (k ≠ 3 → l = 0)
  rw [rightE] at h
  split at h
  · cases h
  · split at h
    · cases h
    · rename_i h1 h2
      refine ⟨by omega, fun hk => ?_⟩
      apply Classical.byContradiction
      intro hl
      exact h2 (.inr (.inr ⟨hk, .inl hl⟩))

theorem b41 : HB41 := by
  intro N e _ hp hN
  simp only [pre41, mu41] at hp hN
  obtain ⟨p1, d, p3⟩ := hp
  have h1 := len_massE e
  have h2 := massKs_len e.kids
  have h3 := massOs_len e.ops
  have ha := nrmE_at e
  obtain ⟨hkd, hli⟩ := right_kind p3
  refine vc41 _ _ _ ?_
  (simp only [bif_tl, bif_fr, bif_tlf, bif_frf, Bool.not_eq_true', Bool.not_eq_false', decide_eq_true_eq, decide_eq_false_iff_not, beq_iff_eq, beq_eq_false_iff_ne, bne_iff_ne, ne_eq, bne_eq_false_iff_eq, Bool.or_eq_true, Bool.and_eq_true, Bool.or_eq_false_iff, Bool.and_eq_false_imp])
  (simp only [Tree.eta, Edit.eta, Tree.kind_mk, Tree.words_mk, Tree.kids_mk])
  refine ⟨fun hk => ⟨by simp only [pre31]; omega, by simp only [pre31]; omega, ?_⟩, fun hk => ⟨fun hk2 => ⟨by simp; omega, ?_⟩, fun hk2 => ⟨fun hk3 => ⟨?_, by simp only [mu78]; omega, ?_⟩, fun hk3 => ?_⟩⟩⟩
  · rw [if_pos hk] at ha
    simp only [res41, ha]
    (repeat' (first | exact trivial | exact rfl | refine And.intro ?_ ?_))
    · exact hk.symm
    · exact (hli (by omega)).symm
  · rw [if_neg hk, if_pos hk2] at ha
    refine loop_rule (ι := Int × List Kid) (fun s => head41_0 e s.1 s.2) (fun s => 0 ≤ s.1 ∧ s.1 ≤ e.kids.length ∧ s.2.length = s.1 ∧ s.2 ++ nrmKs (e.kids.drop s.1.toNat) = nrmKs e.kids) (fun s => ((e.kids.length : Int) - s.1).toNat) (0, []) rfl ⟨by simp, by simp, by simp, by simp⟩ ?_
    rintro ⟨j, ks⟩ ⟨f1, f2, f3, f4⟩
    dsimp only at f1 f2 f3 f4
    refine vc41_l0 _ _ _ _ _ _ ?_
    rintro y1 hy1 y2 hy2 y3 hy3
    (simp only [bif_tl, bif_fr, bif_tlf, bif_frf, Bool.not_eq_true', Bool.not_eq_false', decide_eq_true_eq, decide_eq_false_iff_not, beq_iff_eq, beq_eq_false_iff_ne, bne_iff_ne, ne_eq, bne_eq_false_iff_eq, Bool.or_eq_true, Bool.and_eq_true, Bool.or_eq_false_iff, Bool.and_eq_false_imp])
    refine ⟨fun hj => ?_, fun hj => ?_⟩
    · have hmem := mem_getD (l := e.kids) (i := j.toNat) (by omega) (KidOf.mk 0 Edit.nil)
      have hm := massKs_mem hmem
      have hr := kid_right p3 hk2 _ hmem
      rw [dropI f1 hj (KidOf.mk 0 Edit.nil)] at f4
      rw [← hy1] at f4 hm hr
      simp only [nrmKs, nrmKid_at] at f4
      rw [← hy2] at f4 hm hr
      rw [← hy3] at f4
      refine ⟨⟨f1, hj⟩, ⟨f1, hj⟩, by simp only [pre41]; exact ⟨by omega, hr⟩, by simp only [mu41]; omega, by simp; omega, by unfold InR; omega, (j + 1, ks ++ [⟨y1.at_, y3⟩]), rfl, ⟨by dsimp only; omega, by dsimp only; omega, by simp; omega, ?_⟩, by dsimp only; omega⟩
      simp only [List.append_assoc, List.cons_append, List.nil_append]
      exact f4
    · rw [List.drop_of_length_le (by omega)] at f4
      simp only [nrmKs, List.append_nil] at f4
      rw [f4]
      simp only [res41, ha]
      (repeat' (first | exact trivial | exact rfl | refine And.intro ?_ ?_))
      · exact hk2.symm
      · exact (hli (by omega)).symm
  · simp only [pre78]
    exact ⟨by omega, fun o ho => op_right p3 hk3 o ho⟩
  · rw [if_neg hk, if_neg hk2, if_pos hk3] at ha
    simp only [res41, ha]
    (repeat' (first | exact trivial | exact rfl | refine And.intro ?_ ?_))
    exact hk3.symm
  · rw [if_neg hk, if_neg hk2, if_neg hk3] at ha
    simp only [res41, ha]
    (repeat' (first | exact trivial | exact rfl | refine And.intro ?_ ?_))
    · show 0 = e.kind
      omega
    · exact (hli hk3).symm

theorem c41_78 : Contract Try.prog cfg 41 spec41 ∧ Contract Try.prog cfg 78 spec78 := make41_78 c31 c108 c1109 b41 b78

end Go.AM.Ytlahjnelghpmeaa

namespace Go.AM.Ytlahjnelghpmeaa
open Go.AM Go.Proofs

theorem turnOs_append : ∀ (a b : List Op), turnOs (a ++ b) = turnOs a ++ turnOs b
  | [], b => rfl
  | o :: r, b => by simp only [List.cons_append, turnOs, turnOs_append r b]

theorem turnW_turn (w : WEdit) : turnW (turnW w) = w := by cases w; rfl
theorem map_turnW (l : List WEdit) : (l.map turnW).map turnW = l := by
  rw [List.map_map]
  have : turnW ∘ turnW = id := by funext w; exact turnW_turn w
  rw [this, List.map_id]

def Tw (list : Int) (w v : Wst) : Prop := nrmOs list (turnOs w.out) W0 = ⟨v.out, [], []⟩ ∧ (v.gone = w.brought ∧ v.brought = w.gone) ∧ normsT w.gone = w.gone ∧ normsT w.brought = w.brought

theorem tw_flush {list : Int} {w v : Wst} (h : Tw list w v) : nrmOs list (turnOs (flushW w).out) W0 = v := by
  obtain ⟨h1, ⟨h2, h3⟩, h4, h5⟩ := h
  obtain ⟨out, g, b⟩ := w
  obtain ⟨vo, vg, vb⟩ := v
  simp only at h2 h3 h4 h5 h1
  rw [h2, h3]
  simp only [flushW, flushO]
  rw [turnOs_append, nrmOs_append, h1, turnOs_append, nrmOs_append]
  by_cases hg : g.length = 0
  · rw [if_pos hg]
    have : g = [] := List.length_eq_zero_iff.1 hg
    subst this
    by_cases hb : b.length = 0
    · rw [if_pos hb]
      have : b = [] := List.length_eq_zero_iff.1 hb
      subst this
      rfl
    · rw [if_neg hb]
      simp [turnOs, turnOp, nrmOs, nrmOp_at, h5]
  · rw [if_neg hg]
    by_cases hb : b.length = 0
    · rw [if_pos hb]
      have : b = [] := List.length_eq_zero_iff.1 hb
      subst this
      simp [turnOs, turnOp, nrmOs, nrmOp_at, h4]
    · rw [if_neg hb]
      simp [turnOs, turnOp, nrmOs, nrmOp_at, h4, h5]

theorem turn_keep (o : Op) (h : o.kind = 0) : turnOs [o] = [o] := by
  obtain ⟨k, n, l, e⟩ := o
  simp only at h
  subst h
  rfl

theorem tw_keep {list : Int} {w v : Wst} (h : Tw list w v) (n : Int) : Tw list (keepW w n) (keepW v n) := by
  have hf := tw_flush h
  refine ⟨?_, ⟨rfl, rfl⟩, rfl, rfl⟩
  show nrmOs list (turnOs (keepO (flushW w).out n)) W0 = ⟨keepO (flushW v).out n, [], []⟩
  rcases keepO_cases (flushW w).out n with e | ⟨a, o, e1, e2, e3⟩
  · rw [e, turnOs_append, nrmOs_append, hf, turn_keep _ rfl, nrm_keep _ _ _ rfl]
    rfl
  · rw [e1, turnOs_append, nrmOs_append, turn_keep _ e2, nrm_keep _ _ _ e2] at hf
    rw [e3, turnOs_append, nrmOs_append, turn_keep ⟨o.kind, o.n + n, o.l, o.e⟩ e2, nrm_keep list ⟨o.kind, o.n + n, o.l, o.e⟩ _ e2]
    have ho : keepO (flushW (nrmOs list (turnOs a) W0)).out o.n = v.out ∧ v.gone = [] ∧ v.brought = [] := by
      rw [← hf]; exact ⟨rfl, rfl, rfl⟩
    have hw : (flushW v).out = v.out := by simp [flushW, flushO, ho.2.1, ho.2.2]
    show (⟨keepO (flushW (nrmOs list (turnOs a) W0)).out (o.n + n), [], []⟩ : Wst) = _
    rw [← keepO_keepO, ho.1, hw]

theorem nrmKs_len : ∀ (ks : List Kid), (nrmKs ks).length = ks.length
  | [] => rfl
  | k :: r => by simp only [nrmKs, List.length_cons, nrmKs_len r]
theorem turnKs_len : ∀ (ks : List Kid), (turnKs ks).length = ks.length
  | [] => rfl
  | k :: r => by simp only [turnKs, List.length_cons, turnKs_len r]

theorem idle_turn (list : Int) (e : Edit) : idleE list (nrmE (turnE e)) = idleE list (nrmE e) := by
  obtain ⟨k, o, n, w, ks, l, os⟩ := e
  simp only [turnE, nrmE]
  by_cases k1 : k = 1
  · rw [if_pos k1, if_pos k1]; rfl
  · rw [if_neg k1, if_neg k1]
    by_cases k2 : k = 2
    · rw [if_pos k2, if_pos k2]; simp only [idleE, Edit.kind_mk, Edit.words_mk, Edit.kids_mk, List.length_map, nrmKs_len, turnKs_len]
    · rw [if_neg k2, if_neg k2]
      by_cases k3 : k = 3
      · rw [if_pos k3, if_pos k3]; rfl
      · rw [if_neg k3, if_neg k3]

theorem tw_op {list : Int} {w v : Wst} {o : Op} (h : Tw list w v) (hi : nrmE (turnE (nrmE (turnE o.e))) = nrmE o.e) : Tw list (nrmOp list (turnOp o) w) (nrmOp list o v) := by
  obtain ⟨k, n, l, e⟩ := o
  simp only at hi
  have hq := h
  obtain ⟨h1, ⟨h2, h3⟩, h4, h5⟩ := hq
  by_cases k1 : k = 1
  · subst k1
    have e1 : turnOp ⟨1, n, l, e⟩ = ⟨2, n, l, e⟩ := rfl
    rw [e1, nrmOp_at, nrmOp_at]
    simp only [show ¬(2 : Int) = 0 by decide, show ¬(2 : Int) = 1 by decide, show ¬(1 : Int) = 0 by decide, if_true, if_false]
    exact ⟨h1, ⟨by rw [h2], h3⟩, h4, by simp only [normsT_append, normsT_idem, h5]⟩
  by_cases k2 : k = 2
  · subst k2
    have e1 : turnOp ⟨2, n, l, e⟩ = ⟨1, n, l, e⟩ := rfl
    rw [e1, nrmOp_at, nrmOp_at]
    simp only [show ¬(2 : Int) = 0 by decide, show ¬(2 : Int) = 1 by decide, show ¬(1 : Int) = 0 by decide, if_true, if_false]
    exact ⟨h1, ⟨h2, by rw [h3]⟩, by simp only [normsT_append, normsT_idem, h4], h5⟩
  by_cases k3 : k = 3
  · subst k3
    have e1 : turnOp ⟨3, n, l, e⟩ = ⟨3, n, l, turnE e⟩ := rfl
    rw [e1, nrmOp_at, nrmOp_at]
    simp only [show ¬(3 : Int) = 0 by decide, show ¬(3 : Int) = 1 by decide, show ¬(3 : Int) = 2 by decide, if_true, if_false]
    rw [idle_turn]
    by_cases hd : idleE list (nrmE e) = true
    · rw [if_pos hd, if_pos hd]; exact tw_keep h 1
    · rw [if_neg hd, if_neg hd]
      refine ⟨?_, ⟨rfl, rfl⟩, rfl, rfl⟩
      have hf := tw_flush h
      show nrmOs list (turnOs ((flushW w).out ++ [⟨3, 0, [], nrmE (turnE e)⟩])) W0 = _
      rw [turnOs_append, nrmOs_append, hf]
      have e2 : turnOs [(⟨3, 0, [], nrmE (turnE e)⟩ : Op)] = [⟨3, 0, [], turnE (nrmE (turnE e))⟩] := rfl
      rw [e2]
      simp only [nrmOs, nrmOp_at]
      simp only [show ¬(3 : Int) = 0 by decide, show ¬(3 : Int) = 1 by decide, show ¬(3 : Int) = 2 by decide, if_true, if_false]
      rw [hi, if_neg hd]
  · have e1 : turnOp ⟨k, n, l, e⟩ = ⟨k, n, l, e⟩ := by simp only [turnOp]; rw [if_neg k1, if_neg k2, if_neg k3]
    rw [e1, nrmOp_at, nrmOp_at]
    by_cases k0 : k = 0
    · simp only [k0, if_true]; exact tw_keep h n
    · simp only [k0, k1, k2, k3, if_false]; exact h

mutual
theorem twice : ∀ (e : Edit), nrmE (turnE (nrmE (turnE e))) = nrmE e
  | .mk k o n w ks l os => by
    have h1 := twice_Ks ks
    have h2 := twice_Os l os W0 W0 ⟨rfl, ⟨rfl, rfl⟩, rfl, rfl⟩
    have h3 := tw_flush h2
    rw [turnE, nrmE, nrmE]
    by_cases k1 : k = 1
    · rw [if_pos k1, if_pos k1, turnE, nrmE, if_pos k1, normT_idem, normT_idem]
    · rw [if_neg k1, if_neg k1]
      by_cases k2 : k = 2
      · rw [if_pos k2, if_pos k2, turnE, nrmE, if_neg k1, if_pos k2, map_turnW, h1]
      · rw [if_neg k2, if_neg k2]
        by_cases k3 : k = 3
        · rw [if_pos k3, if_pos k3, turnE, nrmE, if_neg k1, if_neg k2, if_pos k3]
          show Edit.mk k Tree.nil Tree.nil [] [] l (flushW (nrmOs l (turnOs (flushW (nrmOs l (turnOs os) W0)).out) W0)).out = Edit.mk k Tree.nil Tree.nil [] [] l (flushW (nrmOs l os W0)).out
          rw [h3]
        · rw [if_neg k3, if_neg k3, turnE, nrmE, if_neg k1, if_neg k2, if_neg k3]
theorem twice_Ks : ∀ (ks : List (KidOf Edit)), nrmKs (turnKs (nrmKs (turnKs ks))) = nrmKs ks
  | [] => rfl
  | k :: r => by
    have h1 := twice_Kid k
    have h2 := twice_Ks r
    simp only [nrmKs, turnKs]
    rw [h1, h2]
theorem twice_Kid : ∀ (k : KidOf Edit), nrmKid (turnKid (nrmKid (turnKid k))) = nrmKid k
  | ⟨a, e⟩ => by
    have h := twice e
    simp only [nrmKid, turnKid]
    rw [h]
theorem twice_Os (list : Int) : ∀ (os : List (OpOf Edit)) (w v : Wst), Tw list w v → Tw list (nrmOs list (turnOs os) w) (nrmOs list os v)
  | [], w, v, h => h
  | o :: r, w, v, h => by
    have h1 := twice_Op list o w v h
    exact twice_Os list r _ _ h1
theorem twice_Op (list : Int) : ∀ (o : OpOf Edit) (w v : Wst), Tw list w v → Tw list (nrmOp list (turnOp o) w) (nrmOp list o v)
  | ⟨k, n, l, e⟩, w, v, h => tw_op (o := ⟨k, n, l, e⟩) h (twice e)
end

end Go.AM.Ytlahjnelghpmeaa

namespace Go.AM.Ytlahjnelghpmeaa
open Go.AM Go.Proofs

end Go.AM.Ytlahjnelghpmeaa

namespace Go.AM.Ytlahjnelghpmeaa
open Go.AM Go.Proofs

end Go.AM.Ytlahjnelghpmeaa

namespace Go.AM.Ytlahjnelghpmeaa
open Go.AM Go.Proofs


end Go.AM.Ytlahjnelghpmeaa
