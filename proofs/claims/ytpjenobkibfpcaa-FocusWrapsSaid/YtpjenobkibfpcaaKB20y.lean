import Derived.Test.YtpjenobkibfpcaaKB22c
import Derived.Test.YtpjenobkibfpcaaCD25s
import Derived.Test.YtpjenobkibfpcaaKB07
import Derived.Test.YtpjenobkibfpcaaKD24
set_option linter.unusedSimpArgs false
set_option linter.unusedVariables false
namespace Go.AM.Ytpjenobkibfpcaa
open Go.AM Go.Proofs
noncomputable section
def args57 : ArgL (Edit × Unit) := (.cons (aEl .edit) .nil)
def pre57 (a : Edit × Unit) : Prop := massE a.1 ≤ 20000000000 ∧ ∃ d, rightE a.1 d = true
def mu57 (a : Edit × Unit) : Nat := 2 * massE a.1
noncomputable def res57 (a : Edit × Unit) : V U := .agg [.int .i64 (Edit.kind (nrmE a.1)), .int .i64 (Tree.kind (Edit.old (nrmE a.1))), .slice (U := U) .u64 (Tree.words (Edit.old (nrmE a.1))) .unk, .slice (U := U) .tree (Tree.kids (Edit.old (nrmE a.1))) .unk, .int .i64 (Tree.kind (Edit.new (nrmE a.1))), .slice (U := U) .u64 (Tree.words (Edit.new (nrmE a.1))) .unk, .slice (U := U) .tree (Tree.kids (Edit.new (nrmE a.1))) .unk, .slice (U := U) .wedit (Edit.words (nrmE a.1)) .unk, .slice (U := U) .kid (Edit.kids (nrmE a.1)) .unk, .int .i64 (Edit.list (nrmE a.1)), .slice (U := U) .op (Edit.ops (nrmE a.1)) .unk]
noncomputable def spec57 : Fs U := fs args57 (fun a => [pre57 a]) res57
def args94 : ArgL (Int × List Op × Unit) := (.cons (aInt .i64) (.cons (aSl .op) .nil))
def pre94 (a : Int × List Op × Unit) : Prop := massOs a.2.1 ≤ 20000000000 ∧ ∀ o ∈ a.2.1, ∃ d, rightOp a.1 o d = true
def mu94 (a : Int × List Op × Unit) : Nat := 2 * massOs a.2.1 + 1
noncomputable def res94 (a : Int × List Op × Unit) : V U := .c (.slice (U := U) .op ((flushW (nrmOs a.1 a.2.1 (Wst.mk [] [] []))).out) .unk)
noncomputable def spec94 : Fs U := fs args94 (fun a => [pre94 a]) res94
noncomputable def know57 (N : Nat) : List (FuncId × Fs U) := (57, fs args57 (fun a => [pre57 a, mu57 a < N]) res57) :: (94, fs args94 (fun a => [pre94 a, mu94 a < N]) res94) :: [(71, spec71), (128, spec1128), (126, spec126), (129, spec129), (127, spec2127)]
def lv57 : Lives U := fun i => match i with
  | 0 => ([(1, []), (2, [])], [((.loc 1), []), ((.loc 2), [])])
  | 1 => ([(1, []), (2, []), (3, [])], [((.loc 1), []), ((.loc 2), []), ((.loc 3), [])])
  | 2 => ([(1, []), (2, []), (3, []), (12, [])], [((.loc 1), []), ((.loc 2), []), ((.loc 3), [])])
  | 3 => ([(1, []), (2, []), (3, []), (12, []), (13, [])], [((.loc 1), []), ((.loc 2), []), ((.loc 3), [])])
  | 4 => ([(2, []), (3, [])], [((.loc 2), []), ((.loc 3), [])])
  | 5 => ([(1, []), (2, []), (3, []), (12, []), (23, [])], [((.loc 1), []), ((.loc 2), []), ((.loc 3), [])])
  | 6 => ([(1, []), (2, []), (3, [])], [((.loc 1), []), ((.loc 2), []), ((.loc 3), [])])
  | 7 => ([(2, []), (3, []), (32, []), (33, []), (34, [])], [((.loc 2), []), ((.loc 3), [.any, .any, .any, .any, .any, .any, .any, .any, .own .kid])])
  | 8 => ([(2, []), (3, []), (32, []), (33, []), (34, []), (35, [])], [((.loc 2), []), ((.loc 3), [])])
  | 9 => ([(2, []), (3, []), (5, []), (32, []), (33, []), (34, [])], [((.loc 2), []), ((.loc 3), []), ((.loc 5), [])])
  | 10 => ([(2, []), (3, []), (32, []), (33, []), (34, [])], [((.loc 2), []), ((.loc 3), [])])
  | 11 => ([(2, []), (3, []), (32, []), (33, []), (34, [])], [((.loc 2), []), ((.loc 3), [.any, .any, .any, .any, .any, .any, .any, .any, .own .kid])])
  | 12 => ([(1, []), (2, []), (3, []), (50, [])], [((.loc 1), []), ((.loc 2), []), ((.loc 3), [])])
  | 13 => ([(2, []), (3, [])], [((.loc 2), []), ((.loc 3), [])])
  | 14 => ([(2, [])], [((.loc 2), [])])
  | _ => ([], [])
def head57_0 (e : Edit) (x34 : Int) (ml3_8 : List Kid) : LSt U := (⟨[(2, .ptr (.loc 2) 0), (3, .ptr (.loc 3) 0), (32, .c (.slice (U := U) .kid (Edit.kids e) .unk)), (33, .c (.int .i64 ((Edit.kids e).length : Int))), (34, .c (.int .i64 x34))], [((.loc 2), [.int .i64 0, .int .i64 0, .nils, .nils, .int .i64 0, .nils, .nils, .nils, .nils, .int .i64 0, .nils]), ((.loc 3), [.int .i64 (Edit.kind e), .int .i64 0, .nils, .nils, .int .i64 0, .nils, .nils, .slice (U := U) .wedit (([] : List WEdit) ++ (Edit.words e)) (.own (.l 3 7)), .slice (U := U) .kid ml3_8 (.own (.l 3 8)), .int .i64 (Edit.list e), .nils])], []⟩ : LSt U)
abbrev W57 (N : Nat) (e : Edit) (Q : AExit → LSt U → Prop) := awp cfg (know (know57 N)) (drawOk cfg (know (know57 N))) Try.f57.ntmps lv57 (cd Try.f57 []) (⟨[(0, .agg [.int .i64 (Edit.kind e), .int .i64 (Tree.kind (Edit.old e)), .slice (U := U) .u64 (Tree.words (Edit.old e)) .unk, .slice (U := U) .tree (Tree.kids (Edit.old e)) .unk, .int .i64 (Tree.kind (Edit.new e)), .slice (U := U) .u64 (Tree.words (Edit.new e)) .unk, .slice (U := U) .tree (Tree.kids (Edit.new e)) .unk, .slice (U := U) .wedit (Edit.words e) .unk, .slice (U := U) .kid (Edit.kids e) .unk, .int .i64 (Edit.list e), .slice (U := U) .op (Edit.ops e) .unk])], [], []⟩ : LSt U) Q
abbrev a57_KG22d (N : Nat) := awp cfg (know (know57 N)) (drawOk cfg (know (know57 N))) Try.f57.ntmps lv57
abbrev s57_KG22d (N : Nat) := seqK cfg (know (know57 N)) (drawOk cfg (know (know57 N))) Try.f57.ntmps lv57
theorem vc57 (N : Nat) (e : Edit) (Q : AExit → LSt U → Prop) (h : ((((Edit.kind e) : Int) == 1) = true → (pre71 ((Tree.mk (Tree.kind (Edit.old e)) (Tree.words (Edit.old e)) (Tree.kids (Edit.old e))), ())) ∧ (pre71 ((Tree.mk (Tree.kind (Edit.new e)) (Tree.words (Edit.new e)) (Tree.kids (Edit.new e))), ())) ∧ (Q .ret (⟨[(2, .ptr (.loc 2) 0)], [((.loc 2), [.int .i64 (Edit.kind e), .int .i64 (Tree.kind (normT (Tree.mk (Tree.kind (Edit.old e)) (Tree.words (Edit.old e)) (Tree.kids (Edit.old e))))), .slice (U := U) .u64 (Tree.words (normT (Tree.mk (Tree.kind (Edit.old e)) (Tree.words (Edit.old e)) (Tree.kids (Edit.old e))))) .unk, .slice (U := U) .tree (Tree.kids (normT (Tree.mk (Tree.kind (Edit.old e)) (Tree.words (Edit.old e)) (Tree.kids (Edit.old e))))) .unk, .int .i64 (Tree.kind (normT (Tree.mk (Tree.kind (Edit.new e)) (Tree.words (Edit.new e)) (Tree.kids (Edit.new e))))), .slice (U := U) .u64 (Tree.words (normT (Tree.mk (Tree.kind (Edit.new e)) (Tree.words (Edit.new e)) (Tree.kids (Edit.new e))))) .unk, .slice (U := U) .tree (Tree.kids (normT (Tree.mk (Tree.kind (Edit.new e)) (Tree.words (Edit.new e)) (Tree.kids (Edit.new e))))) .unk, .nils, .nils, .int .i64 (Edit.list e), .nils])], []⟩ : LSt U))) ∧ ((((Edit.kind e) : Int) == 1) = false → ((((Edit.kind e) : Int) == 2) = true → ((([] : List WEdit).length + (Edit.words e).length) * 32 ≤ 140737488355328) ∧ (LoopWp (awp cfg (know (know57 N)) (drawOk cfg (know (know57 N))) Try.f57.ntmps lv57 (cd Try.f57 [1, 1, 0, 1, 0, 1, 1, 1, 0, 1, 1, 0, 0])) (head57_0 e 0 ([])) (AExit.inBlock 1 (AExit.inBlock 0 (seqK cfg (know (know57 N)) (drawOk cfg (know (know57 N))) Try.f57.ntmps lv57 (cd Try.f57 [1, 1, 1]) Q))))) ∧ ((((Edit.kind e) : Int) == 2) = false → ((((Edit.kind e) : Int) == 3) = true → (pre94 ((Edit.list e), (Edit.ops e), ())) ∧ (mu94 ((Edit.list e), (Edit.ops e), ()) < N) ∧ (Q .ret (⟨[(2, .ptr (.loc 2) 0)], [((.loc 2), [.int .i64 (Edit.kind e), .int .i64 0, .nils, .nils, .int .i64 0, .nils, .nils, .nils, .nils, .int .i64 (Edit.list e), .slice (U := U) .op ((flushW (nrmOs (Edit.list e) (Edit.ops e) (Wst.mk [] [] []))).out) .unk])], []⟩ : LSt U))) ∧ ((((Edit.kind e) : Int) == 3) = false → Q .ret (⟨[(2, .ptr (.loc 2) 0)], [((.loc 2), [.int .i64 (Edit.kind e), .int .i64 0, .nils, .nils, .int .i64 0, .nils, .nils, .nils, .nils, .int .i64 (Edit.list e), .nils])], []⟩ : LSt U))))) :
    W57 N e Q := by
  have e_ : (W57 N e Q) = ((((((((Edit.kind e) == 1) = true → (pre71 ((Tree.mk (Tree.kind (Edit.old e)) (Tree.words (Edit.old e)) (Tree.kids (Edit.old e))), ())) ∧ (pre71 ((Tree.mk (Tree.kind (Edit.new e)) (Tree.words (Edit.new e)) (Tree.kids (Edit.new e))), ())) ∧ ((Q .ret (⟨[(2, .ptr (.loc 2) 0)], [((.loc 2), [.int .i64 (Edit.kind e), .int .i64 (Tree.kind (normT (Tree.mk (Tree.kind (Edit.old e)) (Tree.words (Edit.old e)) (Tree.kids (Edit.old e))))), .slice (U := U) .u64 (Tree.words (normT (Tree.mk (Tree.kind (Edit.old e)) (Tree.words (Edit.old e)) (Tree.kids (Edit.old e))))) .unk, .slice (U := U) .tree (Tree.kids (normT (Tree.mk (Tree.kind (Edit.old e)) (Tree.words (Edit.old e)) (Tree.kids (Edit.old e))))) .unk, .int .i64 (Tree.kind (normT (Tree.mk (Tree.kind (Edit.new e)) (Tree.words (Edit.new e)) (Tree.kids (Edit.new e))))), .slice (U := U) .u64 (Tree.words (normT (Tree.mk (Tree.kind (Edit.new e)) (Tree.words (Edit.new e)) (Tree.kids (Edit.new e))))) .unk, .slice (U := U) .tree (Tree.kids (normT (Tree.mk (Tree.kind (Edit.new e)) (Tree.words (Edit.new e)) (Tree.kids (Edit.new e))))) .unk, .nils, .nils, .int .i64 (Edit.list e), .nils])], []⟩ : LSt U)))) ∧ (((Edit.kind e) == 1) = false → ((((Edit.kind e) == 2) = true → ((([] : List WEdit).length + (Edit.words e).length) * 32 ≤ 140737488355328) ∧ ((LoopWp (a57_KG22d N (cd Try.f57 [1, 1, 0, 1, 0, 1, 1, 1, 0, 1, 1, 0, 0])) (head57_0 e 0 ([])) (AExit.inBlock 1 (AExit.inBlock 0 (s57_KG22d N (cd Try.f57 [1, 1, 1]) Q)))))) ∧ (((Edit.kind e) == 2) = false → ((((Edit.kind e) == 3) = true → (pre94 ((Edit.list e), (Edit.ops e), ())) ∧ (mu94 ((Edit.list e), (Edit.ops e), ()) < N) ∧ ((Q .ret (⟨[(2, .ptr (.loc 2) 0)], [((.loc 2), [.int .i64 (Edit.kind e), .int .i64 0, .nils, .nils, .int .i64 0, .nils, .nils, .nils, .nils, .int .i64 (Edit.list e), .slice (U := U) .op ((flushW (nrmOs (Edit.list e) (Edit.ops e) (Wst.mk [] [] []))).out) .unk])], []⟩ : LSt U)))) ∧ (((Edit.kind e) == 3) = false → (Q .ret (⟨[(2, .ptr (.loc 2) 0)], [((.loc 2), [.int .i64 (Edit.kind e), .int .i64 0, .nils, .nils, .int .i64 0, .nils, .nils, .nils, .nils, .int .i64 (Edit.list e), .nils])], []⟩ : LSt U)))))))))))) := by kernel_rfl
  exact e_.mpr ⟨fun c_1 => ⟨(h.1 c_1).1, (h.1 c_1).2.1, (h.1 c_1).2.2⟩, fun c_1 => ⟨fun c_2 => ⟨((h.2 c_1).1 c_2).1, ((h.2 c_1).1 c_2).2⟩, fun c_2 => ⟨fun c_3 => ⟨(((h.2 c_1).2 c_2).1 c_3).1, (((h.2 c_1).2 c_2).1 c_3).2.1, (((h.2 c_1).2 c_2).1 c_3).2.2⟩, fun c_3 => (((h.2 c_1).2 c_2).2 c_3)⟩⟩⟩
abbrev W57_l0 (N : Nat) (e : Edit) (x34 : Int) (ml3_8 : List Kid) (N0 : LSt U → Prop) (Q : AExit → LSt U → Prop) := awp cfg (know (know57 N)) (drawOk cfg (know (know57 N))) Try.f57.ntmps lv57 (cd Try.f57 [1, 1, 0, 1, 0, 1, 1, 1, 0, 1, 1, 0, 0]) (head57_0 e x34 ml3_8) (AExit.then N0 (AExit.inBlock 1 (AExit.inBlock 0 (seqK cfg (know (know57 N)) (drawOk cfg (know (know57 N))) Try.f57.ntmps lv57 (cd Try.f57 [1, 1, 1]) Q))))
theorem vc57_l0 (N : Nat) (e : Edit) (x34 : Int) (ml3_8 : List Kid) (N0 : LSt U → Prop) (Q : AExit → LSt U → Prop) (h : ∀ y_1, y_1 = (List.getD (Edit.kids e) (Int.toNat x34) (KidOf.mk 0 Edit.nil)) → ∀ y_2, y_2 = ((KidOf.e y_1)) → ∀ y_3, y_3 = ((nrmE y_2)) → ((decide ((x34 : Int) < ((Edit.kids e).length : Int))) = true → ((0 : Int) ≤ x34 ∧ x34 < ((Edit.kids e).length : Int)) ∧ ((pre57 (y_2, ())) ∧ (mu57 (y_2, ()) < N) ∧ ((ml3_8.length + ([(KidOf.mk (KidOf.at_ y_1) y_3 : Kid)]).length) * 208 ≤ 140737488355328) ∧ ((InR ((x34 : Int) + 1)) ∧ (N0 (head57_0 e ((x34 : Int) + 1) (ml3_8 ++ ([(KidOf.mk (KidOf.at_ y_1) y_3 : Kid)]))))))) ∧ ((decide ((x34 : Int) < ((Edit.kids e).length : Int))) = false → Q .ret (⟨[(2, .ptr (.loc 2) 0)], [((.loc 2), [.int .i64 (Edit.kind e), .int .i64 0, .nils, .nils, .int .i64 0, .nils, .nils, .slice (U := U) .wedit (([] : List WEdit) ++ (Edit.words e)) (.own (.l 2 7)), .slice (U := U) .kid ml3_8 (.own (.l 2 8)), .int .i64 (Edit.list e), .nils])], []⟩ : LSt U))) :
    W57_l0 N e x34 ml3_8 N0 Q := by
  have e_ : (W57_l0 N e x34 ml3_8 N0 Q) = (let y_1 := (List.getD (Edit.kids e) (Int.toNat x34) (KidOf.mk 0 Edit.nil)); let y_2 := (reEdit (KidOf.e y_1)); let y_3 := (reEdit (nrmE y_2)); (((decide ((x34 : Int) < ((Edit.kids e).length : Int))) = true → ((0 : Int) ≤ x34 ∧ x34 < ((Edit.kids e).length : Int)) ∧ ((pre57 (y_2, ())) ∧ (mu57 (y_2, ()) < N) ∧ ((ml3_8.length + ([(KidOf.mk (KidOf.at_ y_1) y_3 : Kid)]).length) * 208 ≤ 140737488355328) ∧ ((InR ((x34 : Int) + 1)) ∧ (N0 (head57_0 e ((x34 : Int) + 1) (ml3_8 ++ ([(KidOf.mk (KidOf.at_ y_1) y_3 : Kid)]))))))) ∧ ((decide ((x34 : Int) < ((Edit.kids e).length : Int))) = false → (Q .ret (⟨[(2, .ptr (.loc 2) 0)], [((.loc 2), [.int .i64 (Edit.kind e), .int .i64 0, .nils, .nils, .int .i64 0, .nils, .nils, .slice (U := U) .wedit (([] : List WEdit) ++ (Edit.words e)) (.own (.l 2 7)), .slice (U := U) .kid ml3_8 (.own (.l 2 8)), .int .i64 (Edit.list e), .nils])], []⟩ : LSt U))))) := by kernel_rfl
  exact e_.mpr (by intro y_1 y_2 y_3; have hh := h y_1 rfl y_2 (reEdit_eq _) y_3 (reEdit_eq _); exact ⟨fun c_4 => ⟨(hh.1 c_4).1, ⟨(hh.1 c_4).2.1, (hh.1 c_4).2.2.1, (hh.1 c_4).2.2.2.1, ⟨(hh.1 c_4).2.2.2.2.1, (hh.1 c_4).2.2.2.2.2⟩⟩⟩, fun c_4 => (hh.2 c_4)⟩)
def Body57 (N : Nat) (e : Edit)  : Prop := awp cfg (know (know57 N)) (drawOk cfg (know (know57 N))) Try.f57.ntmps lv57 (cd Try.f57 []) (entry (args57.can (e, ())) []) (EndsQ cfg Try.f57.ntmps Try.f57.results.toList (res57 (e, ())) [])
abbrev HB57 : Prop := ∀ (N : Nat) (e : Edit) (_ : Unit), pre57 (e, ()) → mu57 (e, ()) < N + 1 → Body57 N e
noncomputable def know94 (N : Nat) : List (FuncId × Fs U) := (57, fs args57 (fun a => [pre57 a, mu57 a < N]) res57) :: (94, fs args94 (fun a => [pre94 a, mu94 a < N]) res94) :: [(71, spec71), (128, spec1128), (126, spec126), (129, spec129), (127, spec2127)]
def lv94 : Lives U := fun i => match i with
  | 0 => ([(0, []), (1, [])], [])
  | 1 => ([(0, []), (1, []), (5, [])], [((.loc 10), [.wr .op])])
  | 2 => ([(0, []), (5, []), (11, []), (12, []), (13, [])], [((.loc 10), [.wr .op, .own .tree, .own .tree])])
  | 3 => ([(0, []), (5, []), (11, []), (12, []), (13, []), (14, [])], [((.loc 10), [.wr .op])])
  | 4 => ([(0, []), (5, []), (7, []), (11, []), (12, []), (13, [])], [((.loc 7), []), ((.loc 10), [.wr .op])])
  | 5 => ([(0, []), (5, []), (7, []), (11, []), (12, []), (13, []), (18, [])], [((.loc 7), []), ((.loc 10), [.wr .op])])
  | 6 => ([(0, []), (5, []), (7, []), (11, []), (12, []), (13, []), (18, []), (19, [])], [((.loc 7), []), ((.loc 10), [.wr .op])])
  | 7 => ([(0, []), (5, []), (11, []), (12, []), (13, [])], [((.loc 10), [.wr .op])])
  | 8 => ([(0, []), (5, []), (7, []), (11, []), (12, []), (13, []), (18, []), (25, [])], [((.loc 7), []), ((.loc 10), [.wr .op])])
  | 9 => ([(0, []), (5, []), (11, []), (12, []), (13, [])], [((.loc 10), [.wr .op])])
  | 10 => ([(0, []), (5, []), (7, []), (11, []), (12, []), (13, []), (18, []), (33, [])], [((.loc 7), []), ((.loc 10), [.wr .op])])
  | 11 => ([(0, []), (5, []), (11, []), (12, []), (13, [])], [((.loc 10), [.wr .op])])
  | 12 => ([(0, []), (5, []), (7, []), (11, []), (12, []), (13, []), (41, [])], [((.loc 7), []), ((.loc 10), [.wr .op])])
  | 13 => ([(0, []), (5, []), (8, []), (11, []), (12, []), (13, [])], [((.loc 8), []), ((.loc 10), [.wr .op])])
  | 14 => ([(0, []), (5, []), (8, []), (11, []), (12, []), (13, []), (48, [])], [((.loc 8), []), ((.loc 10), [.wr .op])])
  | 15 => ([(0, []), (5, []), (11, []), (12, []), (13, [])], [((.loc 10), [.wr .op])])
  | 16 => ([(0, []), (5, []), (8, []), (11, []), (12, []), (13, [])], [((.loc 8), []), ((.loc 10), [.wr .op])])
  | 17 => ([(0, []), (5, []), (11, []), (12, []), (13, [])], [((.loc 10), [.wr .op])])
  | 18 => ([(0, []), (5, []), (11, []), (12, []), (13, [])], [((.loc 10), [.wr .op, .own .tree, .own .tree])])
  | 19 => ([(5, [])], [((.loc 10), [.wr .op])])
  | 20 => ([(4, [])], [])
  | _ => ([], [])
def head94_0 (list : Int) (l : List Op) (x13 : Int) (rl_10_0 : List Op) (ml10_1 : List Tree) (ml10_2 : List Tree) : LSt U := (⟨[(0, .c (.int .i64 list)), (5, .ptr (.loc 10) 0), (11, .c (.slice (U := U) .op l .unk)), (12, .c (.int .i64 (l.length : Int))), (13, .c (.int .i64 x13))], [((.loc 10), [.mref (.l 10 0), .slice (U := U) .tree ml10_1 (.own (.l 10 1)), .slice (U := U) .tree ml10_2 (.own (.l 10 2))])], [(.l 10 0, LC.mk (U := U) .op rl_10_0 0)]⟩ : LSt U)
abbrev W94 (N : Nat) (list : Int) (l : List Op) (Q : AExit → LSt U → Prop) := awp cfg (know (know94 N)) (drawOk cfg (know (know94 N))) Try.f94.ntmps lv94 (cd Try.f94 []) (⟨[(0, .c (.int .i64 list)), (1, .c (.slice (U := U) .op l .unk))], [], []⟩ : LSt U) Q
abbrev a94_KG22d (N : Nat) := awp cfg (know (know94 N)) (drawOk cfg (know (know94 N))) Try.f94.ntmps lv94
abbrev s94_KG22d (N : Nat) := seqK cfg (know (know94 N)) (drawOk cfg (know (know94 N))) Try.f94.ntmps lv94
theorem vc94 (N : Nat) (list : Int) (l : List Op) (Q : AExit → LSt U → Prop) (h : LoopWp (awp cfg (know (know94 N)) (drawOk cfg (know (know94 N))) Try.f94.ntmps lv94 (cd Try.f94 [1, 1, 0, 1, 0, 0])) (head94_0 list l 0 ([]) ([]) ([])) (AExit.inBlock 0 (seqK cfg (know (know94 N)) (drawOk cfg (know (know94 N))) Try.f94.ntmps lv94 (cd Try.f94 [1, 1, 1]) Q))) :
    W94 N list l Q := by
  have e_ : (W94 N list l Q) = ((((LoopWp (a94_KG22d N (cd Try.f94 [1, 1, 0, 1, 0, 0])) (head94_0 list l 0 ([]) ([]) ([])) (AExit.inBlock 0 (s94_KG22d N (cd Try.f94 [1, 1, 1]) Q)))))) := by kernel_rfl
  exact e_.mpr h
abbrev W94_l0 (N : Nat) (list : Int) (l : List Op) (x13 : Int) (rl_10_0 : List Op) (ml10_1 : List Tree) (ml10_2 : List Tree) (N0 : LSt U → Prop) (Q : AExit → LSt U → Prop) := awp cfg (know (know94 N)) (drawOk cfg (know (know94 N))) Try.f94.ntmps lv94 (cd Try.f94 [1, 1, 0, 1, 0, 0]) (head94_0 list l x13 rl_10_0 ml10_1 ml10_2) (AExit.then N0 (AExit.inBlock 0 (seqK cfg (know (know94 N)) (drawOk cfg (know (know94 N))) Try.f94.ntmps lv94 (cd Try.f94 [1, 1, 1]) Q)))
theorem vc94_l0 (N : Nat) (list : Int) (l : List Op) (x13 : Int) (rl_10_0 : List Op) (ml10_1 : List Tree) (ml10_2 : List Tree) (N0 : LSt U → Prop) (Q : AExit → LSt U → Prop) (h : ∀ y_1, y_1 = (List.getD l (Int.toNat x13) Op.nil) → ∀ y_2, y_2 = (Edit.mk 0 (Tree.mk 0 ([]) ([])) (Tree.mk 0 ([]) ([])) ([]) ([]) 0 ([])) → ∀ y_3, y_3 = (Int.toNat (((flushW (Wst.mk rl_10_0 ml10_1 ml10_2)).out).length : Int)) → ∀ y_4, y_4 = ((OpOf.e y_1)) → ∀ y_5, y_5 = ((nrmE y_4)) → ((decide ((x13 : Int) < (l.length : Int))) = true → ((0 : Int) ≤ x13 ∧ x13 < (l.length : Int)) ∧ (((((OpOf.kind y_1) : Int) == 0) = true → (pre126 ((rl_10_0, ml10_1, ml10_2, ()), (OpOf.n y_1), ())) ∧ ((InR ((x13 : Int) + 1)) ∧ (N0 (head94_0 list l ((x13 : Int) + 1) ((keepW (Wst.mk rl_10_0 ml10_1 ml10_2) (OpOf.n y_1)).out) ((keepW (Wst.mk rl_10_0 ml10_1 ml10_2) (OpOf.n y_1)).gone) ((keepW (Wst.mk rl_10_0 ml10_1 ml10_2) (OpOf.n y_1)).brought))))) ∧ ((((OpOf.kind y_1) : Int) == 0) = false → ((((OpOf.kind y_1) : Int) == 1) = true → (pre127 ((rl_10_0, ml10_1, ml10_2, ()), (OpOf.l y_1), ())) ∧ ((InR ((x13 : Int) + 1)) ∧ (N0 (head94_0 list l ((x13 : Int) + 1) ((Wst.mk rl_10_0 (ml10_1 ++ normsT (OpOf.l y_1)) ml10_2).out) ((Wst.mk rl_10_0 (ml10_1 ++ normsT (OpOf.l y_1)) ml10_2).gone) ((Wst.mk rl_10_0 (ml10_1 ++ normsT (OpOf.l y_1)) ml10_2).brought))))) ∧ ((((OpOf.kind y_1) : Int) == 1) = false → ((((OpOf.kind y_1) : Int) == 2) = true → (pre1127 ((rl_10_0, ml10_1, ml10_2, ()), (OpOf.l y_1), ())) ∧ ((InR ((x13 : Int) + 1)) ∧ (N0 (head94_0 list l ((x13 : Int) + 1) ((Wst.mk rl_10_0 ml10_1 (ml10_2 ++ normsT (OpOf.l y_1))).out) ((Wst.mk rl_10_0 ml10_1 (ml10_2 ++ normsT (OpOf.l y_1))).gone) ((Wst.mk rl_10_0 ml10_1 (ml10_2 ++ normsT (OpOf.l y_1))).brought))))) ∧ ((((OpOf.kind y_1) : Int) == 2) = false → ((((OpOf.kind y_1) : Int) == 3) = true → (pre57 (y_4, ())) ∧ (mu57 (y_4, ()) < N) ∧ ((pre1128 (list, y_5, ())) ∧ (((idleE list y_5) = true → (pre126 ((rl_10_0, ml10_1, ml10_2, ()), 1, ())) ∧ ((InR ((x13 : Int) + 1)) ∧ (N0 (head94_0 list l ((x13 : Int) + 1) ((keepW (Wst.mk rl_10_0 ml10_1 ml10_2) 1).out) ((keepW (Wst.mk rl_10_0 ml10_1 ml10_2) 1).gone) ((keepW (Wst.mk rl_10_0 ml10_1 ml10_2) 1).brought))))) ∧ ((idleE list y_5) = false → (pre129 ((rl_10_0, ml10_1, ml10_2, ()), ())) ∧ (((((flushW (Wst.mk rl_10_0 ml10_1 ml10_2)).out).length + ([(OpOf.mk 0 0 ([]) y_2 : Op)]).length) * 240 ≤ 140737488355328) ∧ ((0 : Int) ≤ (((flushW (Wst.mk rl_10_0 ml10_1 ml10_2)).out).length : Int) ∧ (((flushW (Wst.mk rl_10_0 ml10_1 ml10_2)).out).length : Int) < ((((flushW (Wst.mk rl_10_0 ml10_1 ml10_2)).out) ++ ([(OpOf.mk 0 0 ([]) y_2 : Op)])).length : Int)) ∧ ((0 : Nat) ≤ y_3) ∧ ((InR ((x13 : Int) + 1)) ∧ (N0 (head94_0 list l ((x13 : Int) + 1) (List.set (((flushW (Wst.mk rl_10_0 ml10_1 ml10_2)).out) ++ ([(OpOf.mk 0 0 ([]) y_2 : Op)])) y_3 (OpOf.mk 3 0 ([]) y_5 : Op)) ((flushW (Wst.mk rl_10_0 ml10_1 ml10_2)).gone) ((flushW (Wst.mk rl_10_0 ml10_1 ml10_2)).brought))))))))) ∧ ((((OpOf.kind y_1) : Int) == 3) = false → (InR ((x13 : Int) + 1)) ∧ (N0 (head94_0 list l ((x13 : Int) + 1) rl_10_0 ml10_1 ml10_2)))))))) ∧ ((decide ((x13 : Int) < (l.length : Int))) = false → (pre129 ((rl_10_0, ml10_1, ml10_2, ()), ())) ∧ (Q .ret (⟨[(4, .c (.slice (U := U) .op ((flushW (Wst.mk rl_10_0 ml10_1 ml10_2)).out) (.own (.e 4 0))))], [], []⟩ : LSt U)))) :
    W94_l0 N list l x13 rl_10_0 ml10_1 ml10_2 N0 Q := by
  have e_ : (W94_l0 N list l x13 rl_10_0 ml10_1 ml10_2 N0 Q) = (let y_1 := (List.getD l (Int.toNat x13) Op.nil); let y_2 := (Edit.mk 0 (Tree.mk 0 ([]) ([])) (Tree.mk 0 ([]) ([])) ([]) ([]) 0 ([])); let y_3 := (Int.toNat (((flushW (Wst.mk rl_10_0 ml10_1 ml10_2)).out).length : Int)); let y_4 := (reEdit (OpOf.e y_1)); let y_5 := (reEdit (nrmE y_4)); (((decide ((x13 : Int) < (l.length : Int))) = true → ((0 : Int) ≤ x13 ∧ x13 < (l.length : Int)) ∧ ((((((OpOf.kind y_1) == 0) = true → (pre126 ((rl_10_0, ml10_1, ml10_2, ()), (OpOf.n y_1), ())) ∧ ((InR ((x13 : Int) + 1)) ∧ (N0 (head94_0 list l ((x13 : Int) + 1) ((keepW (Wst.mk rl_10_0 ml10_1 ml10_2) (OpOf.n y_1)).out) ((keepW (Wst.mk rl_10_0 ml10_1 ml10_2) (OpOf.n y_1)).gone) ((keepW (Wst.mk rl_10_0 ml10_1 ml10_2) (OpOf.n y_1)).brought))))) ∧ (((OpOf.kind y_1) == 0) = false → ((((OpOf.kind y_1) == 1) = true → (pre127 ((rl_10_0, ml10_1, ml10_2, ()), (OpOf.l y_1), ())) ∧ ((InR ((x13 : Int) + 1)) ∧ (N0 (head94_0 list l ((x13 : Int) + 1) ((Wst.mk rl_10_0 (ml10_1 ++ normsT (OpOf.l y_1)) ml10_2).out) ((Wst.mk rl_10_0 (ml10_1 ++ normsT (OpOf.l y_1)) ml10_2).gone) ((Wst.mk rl_10_0 (ml10_1 ++ normsT (OpOf.l y_1)) ml10_2).brought))))) ∧ (((OpOf.kind y_1) == 1) = false → ((((OpOf.kind y_1) == 2) = true → (pre1127 ((rl_10_0, ml10_1, ml10_2, ()), (OpOf.l y_1), ())) ∧ ((InR ((x13 : Int) + 1)) ∧ (N0 (head94_0 list l ((x13 : Int) + 1) ((Wst.mk rl_10_0 ml10_1 (ml10_2 ++ normsT (OpOf.l y_1))).out) ((Wst.mk rl_10_0 ml10_1 (ml10_2 ++ normsT (OpOf.l y_1))).gone) ((Wst.mk rl_10_0 ml10_1 (ml10_2 ++ normsT (OpOf.l y_1))).brought))))) ∧ (((OpOf.kind y_1) == 2) = false → ((((OpOf.kind y_1) == 3) = true → (pre57 (y_4, ())) ∧ (mu57 (y_4, ()) < N) ∧ ((pre1128 (list, y_5, ())) ∧ (((idleE list y_5) = true → (pre126 ((rl_10_0, ml10_1, ml10_2, ()), 1, ())) ∧ ((InR ((x13 : Int) + 1)) ∧ (N0 (head94_0 list l ((x13 : Int) + 1) ((keepW (Wst.mk rl_10_0 ml10_1 ml10_2) 1).out) ((keepW (Wst.mk rl_10_0 ml10_1 ml10_2) 1).gone) ((keepW (Wst.mk rl_10_0 ml10_1 ml10_2) 1).brought))))) ∧ ((idleE list y_5) = false → (pre129 ((rl_10_0, ml10_1, ml10_2, ()), ())) ∧ (((((flushW (Wst.mk rl_10_0 ml10_1 ml10_2)).out).length + ([(OpOf.mk 0 0 ([]) y_2 : Op)]).length) * 240 ≤ 140737488355328) ∧ ((0 : Int) ≤ (((flushW (Wst.mk rl_10_0 ml10_1 ml10_2)).out).length : Int) ∧ (((flushW (Wst.mk rl_10_0 ml10_1 ml10_2)).out).length : Int) < ((((flushW (Wst.mk rl_10_0 ml10_1 ml10_2)).out) ++ ([(OpOf.mk 0 0 ([]) y_2 : Op)])).length : Int)) ∧ ((0 : Nat) ≤ y_3) ∧ ((InR ((x13 : Int) + 1)) ∧ (N0 (head94_0 list l ((x13 : Int) + 1) (List.set (((flushW (Wst.mk rl_10_0 ml10_1 ml10_2)).out) ++ ([(OpOf.mk 0 0 ([]) y_2 : Op)])) y_3 (OpOf.mk 3 0 ([]) y_5 : Op)) ((flushW (Wst.mk rl_10_0 ml10_1 ml10_2)).gone) ((flushW (Wst.mk rl_10_0 ml10_1 ml10_2)).brought))))))))) ∧ (((OpOf.kind y_1) == 3) = false → (InR ((x13 : Int) + 1)) ∧ (N0 (head94_0 list l ((x13 : Int) + 1) rl_10_0 ml10_1 ml10_2))))))))))))) ∧ ((decide ((x13 : Int) < (l.length : Int))) = false → (pre129 ((rl_10_0, ml10_1, ml10_2, ()), ())) ∧ ((Q .ret (⟨[(4, .c (.slice (U := U) .op ((flushW (Wst.mk rl_10_0 ml10_1 ml10_2)).out) (.own (.e 4 0))))], [], []⟩ : LSt U)))))) := by kernel_rfl
  exact e_.mpr (by intro y_1 y_2 y_3 y_4 y_5; have hh := h y_1 rfl y_2 rfl y_3 rfl y_4 (reEdit_eq _) y_5 (reEdit_eq _); exact ⟨fun c_5 => ⟨(hh.1 c_5).1, ⟨fun c_6 => ⟨((hh.1 c_5).2.1 c_6).1, ⟨((hh.1 c_5).2.1 c_6).2.1, ((hh.1 c_5).2.1 c_6).2.2⟩⟩, fun c_6 => ⟨fun c_7 => ⟨(((hh.1 c_5).2.2 c_6).1 c_7).1, ⟨(((hh.1 c_5).2.2 c_6).1 c_7).2.1, (((hh.1 c_5).2.2 c_6).1 c_7).2.2⟩⟩, fun c_7 => ⟨fun c_8 => ⟨((((hh.1 c_5).2.2 c_6).2 c_7).1 c_8).1, ⟨((((hh.1 c_5).2.2 c_6).2 c_7).1 c_8).2.1, ((((hh.1 c_5).2.2 c_6).2 c_7).1 c_8).2.2⟩⟩, fun c_8 => ⟨fun c_9 => ⟨(((((hh.1 c_5).2.2 c_6).2 c_7).2 c_8).1 c_9).1, (((((hh.1 c_5).2.2 c_6).2 c_7).2 c_8).1 c_9).2.1, ⟨(((((hh.1 c_5).2.2 c_6).2 c_7).2 c_8).1 c_9).2.2.1, ⟨fun c_10 => ⟨((((((hh.1 c_5).2.2 c_6).2 c_7).2 c_8).1 c_9).2.2.2.1 c_10).1, ⟨((((((hh.1 c_5).2.2 c_6).2 c_7).2 c_8).1 c_9).2.2.2.1 c_10).2.1, ((((((hh.1 c_5).2.2 c_6).2 c_7).2 c_8).1 c_9).2.2.2.1 c_10).2.2⟩⟩, fun c_10 => ⟨((((((hh.1 c_5).2.2 c_6).2 c_7).2 c_8).1 c_9).2.2.2.2 c_10).1, ⟨((((((hh.1 c_5).2.2 c_6).2 c_7).2 c_8).1 c_9).2.2.2.2 c_10).2.1, ((((((hh.1 c_5).2.2 c_6).2 c_7).2 c_8).1 c_9).2.2.2.2 c_10).2.2.1, ((((((hh.1 c_5).2.2 c_6).2 c_7).2 c_8).1 c_9).2.2.2.2 c_10).2.2.2.1, ⟨((((((hh.1 c_5).2.2 c_6).2 c_7).2 c_8).1 c_9).2.2.2.2 c_10).2.2.2.2.1, ((((((hh.1 c_5).2.2 c_6).2 c_7).2 c_8).1 c_9).2.2.2.2 c_10).2.2.2.2.2⟩⟩⟩⟩⟩⟩, fun c_9 => ⟨(((((hh.1 c_5).2.2 c_6).2 c_7).2 c_8).2 c_9).1, (((((hh.1 c_5).2.2 c_6).2 c_7).2 c_8).2 c_9).2⟩⟩⟩⟩⟩⟩, fun c_5 => ⟨(hh.2 c_5).1, (hh.2 c_5).2⟩⟩)
def Body94 (N : Nat) (list : Int) (l : List Op)  : Prop := awp cfg (know (know94 N)) (drawOk cfg (know (know94 N))) Try.f94.ntmps lv94 (cd Try.f94 []) (entry (args94.can (list, l, ())) []) (EndsQ cfg Try.f94.ntmps Try.f94.results.toList (res94 (list, l, ())) [])
abbrev HB94 : Prop := ∀ (N : Nat) (list : Int) (l : List Op) (_ : Unit), pre94 (list, l, ()) → mu94 (list, l, ()) < N + 1 → Body94 N list l
theorem make57_76 (c71 : Contract Try.prog cfg 71 spec71) (c1128 : Contract Try.prog cfg 128 spec1128) (c126 : Contract Try.prog cfg 126 spec126) (c129 : Contract Try.prog cfg 129 spec129) (c2127 : Contract Try.prog cfg 127 spec2127) (ha : HB57) (hb : HB94) : Contract Try.prog cfg 57 spec57 ∧ Contract Try.prog cfg 94 spec94 :=
  contract_mut2 (μA := mu57) (μB := mu94) (l := [(71, spec71), (128, spec1128), (126, spec126), (129, spec129), (127, spec2127)]) cfgOk rfl (⟨c71, c1128, c126, c129, c2127, trivial⟩) lv57 lv94 Try.func57 Try.func94 rfl rfl rfl rfl 1 2 (fun _ => rfl) (fun _ => rfl) (by decide) (by decide) (fun N ⟨e, _⟩ => ha N e ()) (fun N ⟨list, l, _⟩ => hb N list l ())
end
end Go.AM.Ytpjenobkibfpcaa

namespace Go.AM.Ytpjenobkibfpcaa
open Go.AM Go.Proofs
theorem keepW_len (s : Wst) (n : Int) : (keepW s n).out.length ≤ s.out.length + 3 := by
  have h := flush_len s
  simp only [keepW]
  rw [keepO_at]
  split
  · rw [List.length_set]; omega
  · rw [List.length_append]; simp; omega
theorem keepW_n {s : Wst} {n B K : Int} (hB : 0 ≤ B) (hn : 0 ≤ n ∧ n ≤ K) (h : ∀ o ∈ s.out, 0 ≤ o.n ∧ o.n ≤ B) : ∀ o ∈ (keepW s n).out, 0 ≤ o.n ∧ o.n ≤ B + K := by
  have hF : ∀ o ∈ (flushW s).out, 0 ≤ o.n ∧ o.n ≤ B := by
    intro o ho
    rcases flush_mem s o ho with h1 | h1
    · exact h o h1
    · omega
  intro o ho
  simp only [keepW] at ho
  rw [keepO_at] at ho
  split at ho
  · rename_i hc
    rcases List.mem_or_eq_of_mem_set ho with ho | rfl
    · have := hF o ho; omega
    · have := hF _ (mem_getD (l := (flushW s).out) (i := (flushW s).out.length - 1) (by omega) Op.nil)
      simp only; omega
  · rcases List.mem_append.1 ho with ho | ho
    · have := hF o ho; omega
    · simp only [List.mem_singleton] at ho; subst ho; simp only; omega
theorem nrmKs_lenW : ∀ (l : List Kid), (nrmKs l).length = l.length
  | [] => rfl
  | k :: r => by simp [nrmKs, nrmKs_lenW r]
theorem nrmE_words (e : Edit) : (nrmE e).words.length ≤ e.words.length ∧ (nrmE e).kids.length ≤ e.kids.length := by
  rw [nrmE_at]
  split
  · simp
  · split
    · simp [nrmKs_lenW]
    · split <;> simp
theorem rightOp_keep {list : Int} {o : Op} {d : Int} (h : rightOp list o d = true) (hk : o.kind = 0) : 1 ≤ o.n ∧ o.n ≤ 1048576 := by
  obtain ⟨k, n, l, e⟩ := o
  simp only at hk
  subst hk
  simp [rightOp] at h
  show 1 ≤ n ∧ n ≤ 1048576
  omega
theorem rightOp_desc {list : Int} {o : Op} {d : Int} (h : rightOp list o d = true) (hk : o.kind = 3) : rightE o.e d = true := by
  obtain ⟨k, n, l, e⟩ := o
  simp only at hk
  subst hk
  simp [rightOp] at h
  exact h.2.1.2
theorem kid_right {e : Edit} {d : Int} (h : rightE e d = true) (hk : e.kind = 2) : ∀ k ∈ e.kids, ∃ d, rightE k.e d = true := by
  obtain ⟨k, o, n, w, ks, l, os⟩ := e
  change k = 2 at hk
  subst hk
  have hks : ∃ d last, rightKs last ks d = true := by
    unfold rightE at h
    split at h
    · cases h
    · split at h
      · cases h
      · rw [if_neg (by omega)] at h
        simp only [Bool.and_eq_true] at h
        exact ⟨_, _, h.1.1.1.2⟩
  obtain ⟨d', last, hks⟩ := hks
  change ∀ k ∈ ks, _
  clear h
  induction ks generalizing last with
  | nil => intro k hk; cases hk
  | cons a r ih =>
    simp only [rightKs, Bool.and_eq_true] at hks
    intro k hk
    rcases List.mem_cons.1 hk with rfl | hk
    · obtain ⟨a, e⟩ := k
      simp only [rightKid, Bool.and_eq_true] at hks
      exact ⟨_, hks.1.2⟩
    · exact ih _ hks.2 k hk
theorem op_right {e : Edit} {d : Int} (h : rightE e d = true) (hk : e.kind = 3) : ∀ o ∈ e.ops, ∃ d, rightOp e.list o d = true := by
  obtain ⟨k, o, n, w, ks, l, os⟩ := e
  change k = 3 at hk
  subst hk
  have hos : ∃ d, rightOs l os d = true := by
    unfold rightE at h
    split at h
    · cases h
    · split at h
      · cases h
      · rw [if_neg (by omega)] at h
        simp only [Bool.and_eq_true] at h
        exact ⟨_, h.1.2⟩
  obtain ⟨d', hos⟩ := hos
  change ∀ o ∈ os, ∃ d, rightOp l o d = true
  clear h
  induction os with
  | nil => intro k hk; cases hk
  | cons a r ih =>
    simp only [rightOs, Bool.and_eq_true] at hos
    intro k hk
    rcases List.mem_cons.1 hk with rfl | hk
    · exact ⟨_, hos.1⟩
    · exact ih hos.2 k hk
theorem b94 : HB94 := by
  intro N list l _ hp hN
  simp only [pre94, mu94] at hp hN
  obtain ⟨p1, p3⟩ := hp
  have hl := massOs_len l
  refine vc94 _ _ _ _ ?_
  refine loop_rule (ι := Int × Wst) (fun s => head94_0 list l s.1 s.2.out s.2.gone s.2.brought)
    (fun s => 0 ≤ s.1 ∧ s.1 ≤ l.length ∧ nrmOs list (l.drop s.1.toNat) s.2 = nrmOs list l ⟨[], [], []⟩ ∧ s.2.out.length ≤ 3 * s.1 ∧ s.2.gone.length + s.2.brought.length + massOs (l.drop s.1.toNat) ≤ massOs l ∧ ∀ o ∈ s.2.out, 0 ≤ o.n ∧ o.n ≤ s.1 * 1048576)
    (fun s => ((l.length : Int) - s.1).toNat) (0, ⟨[], [], []⟩) rfl ⟨by simp, by simp, by simp, by simp, by simp, by simp⟩ ?_
  rintro ⟨i, s⟩ ⟨g1, g2, g3, g4, g5, g6⟩
  dsimp only at g1 g2 g3 g4 g5 g6
  refine vc94_l0 _ _ _ _ _ _ _ _ _ ?_
  rintro y1 hy1 y2 hy2 y3 hy3 y4 hy4 y5 hy5
  have hy : y2 = Edit.nil := hy2
  subst hy
  have es : Wst.mk s.out s.gone s.brought = s := rfl
  simp only [es] at hy3 ⊢
  (simp only [vcS])
  refine ⟨fun hi => ?_, fun hi => ?_⟩
  · have hmem := mem_getD (l := l) (i := i.toNat) (by omega) Op.nil
    have hm := massOs_mem hmem
    have hr := p3 _ hmem
    rw [dropI g1 hi Op.nil] at g3 g5
    rw [← hy1] at g3 g5 hm hr
    have hmo := massOp_e y1
    simp only [nrmOs, nrmOp_at, massOs] at g3 g5
    rw [← hy4, ← hy5] at g3
    obtain ⟨d, hr2⟩ := hr
    have hfl := flush_len s
    have hP : ∀ n : Int, 0 ≤ n ∧ n ≤ 1048576 → pre126 ((s.out, s.gone, s.brought, ()), n, ()) := by
      intro n hn
      simp only [pre126]
      refine ⟨by omega, by omega, by omega, fun o ho => ?_, by omega, by omega⟩
      have := g6 o ho
      constructor
      · omega
      · have : i * 1048576 ≤ 20000000000 * 1048576 := by omega
        omega
    have hK : ∀ n : Int, 0 ≤ n ∧ n ≤ 1048576 → nrmOs list (l.drop (i + 1).toNat) (keepW s n) = nrmOs list l ⟨[], [], []⟩ →
        (∃ j : Int × Wst, head94_0 list l (i + 1) (keepW s n).out (keepW s n).gone (keepW s n).brought = head94_0 list l j.1 j.2.out j.2.gone j.2.brought ∧ (0 ≤ j.1 ∧ j.1 ≤ l.length ∧ nrmOs list (l.drop j.1.toNat) j.2 = nrmOs list l ⟨[], [], []⟩ ∧ j.2.out.length ≤ 3 * j.1 ∧ j.2.gone.length + j.2.brought.length + massOs (l.drop j.1.toNat) ≤ massOs l ∧ ∀ o ∈ j.2.out, 0 ≤ o.n ∧ o.n ≤ j.1 * 1048576) ∧ ((l.length : Int) - j.1).toNat < ((l.length : Int) - i).toNat) := by
      intro n hn he
      have h1 := keepW_len s n
      have h2 := keepW_n (s := s) (n := n) (B := i * 1048576) (K := 1048576) (by omega) hn g6
      refine ⟨(i + 1, keepW s n), rfl, ⟨by dsimp only; omega, by dsimp only; omega, he, by dsimp only; omega, by simp only [keepW, List.length_nil]; omega, fun o ho => ?_⟩, by dsimp only; omega⟩
      have := h2 o ho
      dsimp only
      omega
    refine ⟨⟨g1, hi⟩, fun hk => ?_, fun hk => ⟨fun hk1 => ?_, fun hk1 => ⟨fun hk2 => ?_, fun hk2 => ⟨fun hk3 => ?_, fun hk3 => ?_⟩⟩⟩⟩
    · rw [if_pos hk] at g3
      have h1 := rightOp_keep hr2 hk
      exact ⟨hP _ (by omega), by unfold InR; omega, hK _ (by omega) g3⟩
    · rw [if_neg hk, if_pos hk1] at g3
      refine ⟨by simp only [pre127]; omega, by unfold InR; omega, (i + 1, ⟨s.out, s.gone ++ normsT y1.l, s.brought⟩), rfl, ⟨by dsimp only; omega, by dsimp only; omega, g3, by dsimp only; omega, ?_, fun o ho => ?_⟩, by dsimp only; omega⟩
      · have := massK_len y1.l
        simp only [List.length_append, normsT, List.length_map]; omega
      · have := g6 o ho
        dsimp only; omega
    · rw [if_neg hk, if_neg hk1, if_pos hk2] at g3
      refine ⟨by simp only [pre1127]; omega, by unfold InR; omega, (i + 1, ⟨s.out, s.gone, s.brought ++ normsT y1.l⟩), rfl, ⟨by dsimp only; omega, by dsimp only; omega, g3, by dsimp only; omega, ?_, fun o ho => ?_⟩, by dsimp only; omega⟩
      · have := massK_len y1.l
        simp only [List.length_append, normsT, List.length_map]; omega
      · have := g6 o ho
        dsimp only; omega
    · rw [if_neg hk, if_neg hk1, if_neg hk2, if_pos hk3] at g3
      have hre := rightOp_desc hr2 hk3
      rw [← hy4] at hre
      have hw := nrmE_words y4
      rw [← hy5] at hw
      have h1 := len_massE y4
      have h2 := massKs_len y4.kids
      have hmE : massE y4 ≤ massOp y1 := by rw [hmo, hy4]; omega
      refine ⟨by simp only [pre57]; exact ⟨by omega, d, hre⟩, by simp only [mu57]; omega, by simp only [pre1128]; omega, fun hq => ?_, fun hq => ?_⟩
      · rw [if_pos hq] at g3
        exact ⟨hP 1 (by omega), by unfold InR; omega, hK 1 (by omega) g3⟩
      · rw [if_neg (by rw [hq]; simp)] at g3
        rw [hy3, set_last]
        refine ⟨by simp only [pre129]; omega, by simp only [List.length_cons, List.length_nil]; omega, by simp only [List.length_append, List.length_cons, List.length_nil]; omega, by omega, by unfold InR; omega, (i + 1, ⟨(flushW s).out ++ [⟨3, 0, [], y5⟩], [], []⟩), rfl, ⟨by dsimp only; omega, by dsimp only; omega, g3, by simp; omega, by simp; omega, fun o ho => ?_⟩, by dsimp only; omega⟩
        dsimp only at ho ⊢
        rcases List.mem_append.1 ho with ho | ho
        · rcases flush_mem s o ho with h5 | h5
          · have := g6 o h5; omega
          · omega
        · simp only [List.mem_singleton] at ho
          subst ho
          simp only; omega
    · rw [if_neg hk, if_neg hk1, if_neg hk2, if_neg hk3] at g3
      refine ⟨by unfold InR; omega, (i + 1, s), rfl, ⟨by dsimp only; omega, by dsimp only; omega, g3, by dsimp only; omega, by dsimp only; omega, fun o ho => ?_⟩, by dsimp only; omega⟩
      have := g6 o ho
      dsimp only; omega
  · rw [List.drop_of_length_le (by omega)] at g3
    simp only [nrmOs] at g3
    refine ⟨by simp only [pre129]; omega, ?_⟩
    simp only [res94]
    rw [← g3]
    (repeat' (first | exact trivial | exact rfl | apply And.intro))
theorem b57 : HB57 := by
  intro N e _ hp hN
  simp only [pre57, mu57] at hp hN
  obtain ⟨p1, d, p3⟩ := hp
  have h1 := len_massE e
  have h2 := massKs_len e.kids
  have h3 := massOs_len e.ops
  have ha := nrmE_at e
  refine vc57 _ _ _ ?_
  (simp only [vcS])
  (simp only [Tree.eta, Edit.eta, Tree.kind_mk, Tree.words_mk, Tree.kids_mk])
  refine ⟨fun hk => ⟨by simp only [pre71]; omega, by simp only [pre71]; omega, ?_⟩, fun hk => ⟨fun hk2 => ⟨by simp; omega, ?_⟩, fun hk2 => ⟨fun hk3 => ⟨?_, by simp only [mu94]; omega, ?_⟩, fun hk3 => ?_⟩⟩⟩
  · rw [if_pos hk] at ha
    simp only [res57, ha]
    (repeat' (first | exact trivial | exact rfl | apply And.intro))
  · rw [if_neg hk, if_pos hk2] at ha
    refine loop_rule (ι := Int × List Kid) (fun s => head57_0 e s.1 s.2) (fun s => 0 ≤ s.1 ∧ s.1 ≤ e.kids.length ∧ s.2.length = s.1 ∧ s.2 ++ nrmKs (e.kids.drop s.1.toNat) = nrmKs e.kids) (fun s => ((e.kids.length : Int) - s.1).toNat) (0, []) rfl ⟨by simp, by simp, by simp, by simp⟩ ?_
    rintro ⟨j, ks⟩ ⟨f1, f2, f3, f4⟩
    dsimp only at f1 f2 f3 f4
    refine vc57_l0 _ _ _ _ _ _ ?_
    rintro y1 hy1 y2 hy2 y3 hy3
    (simp only [vcS])
    refine ⟨fun hj => ?_, fun hj => ?_⟩
    · have hmem := mem_getD (l := e.kids) (i := j.toNat) (by omega) (KidOf.mk 0 Edit.nil)
      have hm := massKs_mem hmem
      have hr := kid_right p3 hk2 _ hmem
      rw [dropI f1 hj (KidOf.mk 0 Edit.nil)] at f4
      rw [← hy1] at f4 hm hr
      simp only [nrmKs, nrmKid_at] at f4
      rw [← hy2] at f4 hm hr
      rw [← hy3] at f4
      refine ⟨⟨f1, hj⟩, by simp only [pre57]; exact ⟨by omega, hr⟩, by simp only [mu57]; omega, by simp; omega, by unfold InR; omega, (j + 1, ks ++ [⟨y1.at_, y3⟩]), rfl, ⟨by dsimp only; omega, by dsimp only; omega, by simp; omega, ?_⟩, by dsimp only; omega⟩
      simp only [List.append_assoc, List.cons_append, List.nil_append]
      exact f4
    · rw [List.drop_of_length_le (by omega)] at f4
      simp only [nrmKs, List.append_nil] at f4
      rw [f4]
      simp only [res57, ha]
      (repeat' (first | exact trivial | exact rfl | apply And.intro))
  · simp only [pre94]
    exact ⟨by omega, fun o ho => op_right p3 hk3 o ho⟩
  · rw [if_neg hk, if_neg hk2, if_pos hk3] at ha
    simp only [res57, ha]
    (repeat' (first | exact trivial | exact rfl | apply And.intro))
  · rw [if_neg hk, if_neg hk2, if_neg hk3] at ha
    simp only [res57, ha]
    (repeat' (first | exact trivial | exact rfl | apply And.intro))
theorem c57_76 : Contract Try.prog cfg 57 spec57 ∧ Contract Try.prog cfg 94 spec94 := make57_76 c71 c1128 c126 c129 c2127 b57 b94
end Go.AM.Ytpjenobkibfpcaa

namespace Go.AM.Ytpjenobkibfpcaa
open Go.AM Go.Proofs
abbrev TrKG22e (p : Prop) : Prop := p → p
noncomputable section
def args32 : ArgL (Edit × Unit) := (.cons (aEl .edit) .nil)
def pre32 (a : Edit × Unit) : Prop := massE a.1 ≤ 20000000000 ∧ ∃ d, rightE a.1 d = true
def mu32 (a : Edit × Unit) : Nat := 2 * massE a.1
noncomputable def res32 (a : Edit × Unit) : V U := .agg [.int .i64 (Edit.kind (nrmE a.1)), .int .i64 (Tree.kind (Edit.old (nrmE a.1))), .slice (U := U) .u64 (Tree.words (Edit.old (nrmE a.1))) .unk, .slice (U := U) .tree (Tree.kids (Edit.old (nrmE a.1))) .unk, .int .i64 (Tree.kind (Edit.new (nrmE a.1))), .slice (U := U) .u64 (Tree.words (Edit.new (nrmE a.1))) .unk, .slice (U := U) .tree (Tree.kids (Edit.new (nrmE a.1))) .unk, .slice (U := U) .wedit (Edit.words (nrmE a.1)) .unk, .slice (U := U) .kid (Edit.kids (nrmE a.1)) .unk, .int .i64 (Edit.list (nrmE a.1)), .slice (U := U) .op (Edit.ops (nrmE a.1)) .unk]
noncomputable def spec32 : Fs U := fs args32 (fun a => [pre32 a]) res32
def args76 : ArgL (Int × List Op × Unit) := (.cons (aInt .i64) (.cons (aSl .op) .nil))
def pre76 (a : Int × List Op × Unit) : Prop := massOs a.2.1 ≤ 20000000000 ∧ ∀ o ∈ a.2.1, ∃ d, rightOp a.1 o d = true
def mu76 (a : Int × List Op × Unit) : Nat := 2 * massOs a.2.1 + 1
noncomputable def res76 (a : Int × List Op × Unit) : V U := .c (.slice (U := U) .op ((flushW (nrmOs a.1 a.2.1 (Wst.mk [] [] []))).out) .unk)
noncomputable def spec76 : Fs U := fs args76 (fun a => [pre76 a]) res76
noncomputable def know32 (N : Nat) : List (FuncId × Fs U) := (32, fs args32 (fun a => [pre32 a, mu32 a < N]) res32) :: (76, fs args76 (fun a => [pre76 a, mu76 a < N]) res76) :: [(45, spec45), (110, spec110), (111, spec1111)]
def lv32 : Lives U := fun i => match i with
  | 0 => ([(1, []), (2, [])], [((.loc 1), []), ((.loc 2), [])])
  | 1 => ([(1, []), (2, []), (6, [])], [((.loc 1), []), ((.loc 2), [])])
  | 2 => ([(1, []), (2, []), (6, []), (7, [])], [((.loc 1), []), ((.loc 2), [])])
  | 3 => ([(2, [])], [((.loc 2), [])])
  | 4 => ([(1, []), (2, []), (6, []), (16, [])], [((.loc 1), []), ((.loc 2), [])])
  | 5 => ([(1, []), (2, []), (3, [])], [((.loc 1), []), ((.loc 2), []), ((.loc 3), [])])
  | 6 => ([(1, []), (2, []), (3, [])], [((.loc 1), []), ((.loc 2), []), ((.loc 3), [])])
  | 7 => ([(1, []), (2, []), (3, []), (4, [])], [((.loc 1), []), ((.loc 2), []), ((.loc 3), [.any, .any, .any, .any, .any, .any, .any, .any, .own .kid])])
  | 8 => ([(1, []), (2, []), (3, []), (4, []), (29, [])], [((.loc 1), []), ((.loc 2), []), ((.loc 3), [])])
  | 9 => ([(1, []), (2, []), (3, []), (4, [])], [((.loc 1), []), ((.loc 2), []), ((.loc 3), [.any, .any, .any, .any, .any, .any, .any, .any, .own .kid])])
  | 10 => ([(1, []), (2, []), (3, []), (4, [])], [((.loc 1), []), ((.loc 2), []), ((.loc 3), [])])
  | 11 => ([(2, [])], [((.loc 2), [])])
  | 12 => ([(1, []), (2, []), (52, [])], [((.loc 1), []), ((.loc 2), [])])
  | 13 => ([(2, [])], [((.loc 2), [])])
  | 14 => ([(2, [])], [((.loc 2), [])])
  | _ => ([], [])
def head32_0 (e : Edit) (x4 : Int) (ml3_8 : List Kid) : LSt U := (⟨[(1, .ptr (.loc 1) 0), (2, .ptr (.loc 2) 0), (3, .ptr (.loc 3) 0), (4, .c (.int .i64 x4))], [((.loc 1), [.int .i64 (Edit.kind e), .int .i64 (Tree.kind (Edit.old e)), .slice (U := U) .u64 (Tree.words (Edit.old e)) .unk, .slice (U := U) .tree (Tree.kids (Edit.old e)) .unk, .int .i64 (Tree.kind (Edit.new e)), .slice (U := U) .u64 (Tree.words (Edit.new e)) .unk, .slice (U := U) .tree (Tree.kids (Edit.new e)) .unk, .slice (U := U) .wedit (Edit.words e) .unk, .slice (U := U) .kid (Edit.kids e) .unk, .int .i64 (Edit.list e), .slice (U := U) .op (Edit.ops e) .unk]), ((.loc 2), [.int .i64 0, .int .i64 0, .nils, .nils, .int .i64 0, .nils, .nils, .nils, .nils, .int .i64 0, .nils]), ((.loc 3), [.int .i64 2, .int .i64 0, .nils, .nils, .int .i64 0, .nils, .nils, .slice (U := U) .wedit (([] : List WEdit) ++ (Edit.words e)) (.own (.l 3 7)), .slice (U := U) .kid ml3_8 (.own (.l 3 8)), .int .i64 0, .nils])], []⟩ : LSt U)
abbrev W32 (N : Nat) (e : Edit) (Q : AExit → LSt U → Prop) := awp cfg (know (know32 N)) (drawOk cfg (know (know32 N))) Try.f32.ntmps lv32 (cd Try.f32 []) (⟨[(0, .agg [.int .i64 (Edit.kind e), .int .i64 (Tree.kind (Edit.old e)), .slice (U := U) .u64 (Tree.words (Edit.old e)) .unk, .slice (U := U) .tree (Tree.kids (Edit.old e)) .unk, .int .i64 (Tree.kind (Edit.new e)), .slice (U := U) .u64 (Tree.words (Edit.new e)) .unk, .slice (U := U) .tree (Tree.kids (Edit.new e)) .unk, .slice (U := U) .wedit (Edit.words e) .unk, .slice (U := U) .kid (Edit.kids e) .unk, .int .i64 (Edit.list e), .slice (U := U) .op (Edit.ops e) .unk])], [], []⟩ : LSt U) Q
abbrev a32_KG22e (N : Nat) := awp cfg (know (know32 N)) (drawOk cfg (know (know32 N))) Try.f32.ntmps lv32
abbrev s32_KG22e (N : Nat) := seqK cfg (know (know32 N)) (drawOk cfg (know (know32 N))) Try.f32.ntmps lv32
theorem vc32 (N : Nat) (e : Edit) (Q : AExit → LSt U → Prop) (h : ((((Edit.kind e) : Int) == 1) = true → (pre45 ((Tree.mk (Tree.kind (Edit.old e)) (Tree.words (Edit.old e)) (Tree.kids (Edit.old e))), ())) ∧ (pre45 ((Tree.mk (Tree.kind (Edit.new e)) (Tree.words (Edit.new e)) (Tree.kids (Edit.new e))), ())) ∧ (Q .ret (⟨[(2, .ptr (.loc 2) 0)], [((.loc 2), [.int .i64 1, .int .i64 (Tree.kind (normT (Tree.mk (Tree.kind (Edit.old e)) (Tree.words (Edit.old e)) (Tree.kids (Edit.old e))))), .slice (U := U) .u64 (Tree.words (normT (Tree.mk (Tree.kind (Edit.old e)) (Tree.words (Edit.old e)) (Tree.kids (Edit.old e))))) .unk, .slice (U := U) .tree (Tree.kids (normT (Tree.mk (Tree.kind (Edit.old e)) (Tree.words (Edit.old e)) (Tree.kids (Edit.old e))))) .unk, .int .i64 (Tree.kind (normT (Tree.mk (Tree.kind (Edit.new e)) (Tree.words (Edit.new e)) (Tree.kids (Edit.new e))))), .slice (U := U) .u64 (Tree.words (normT (Tree.mk (Tree.kind (Edit.new e)) (Tree.words (Edit.new e)) (Tree.kids (Edit.new e))))) .unk, .slice (U := U) .tree (Tree.kids (normT (Tree.mk (Tree.kind (Edit.new e)) (Tree.words (Edit.new e)) (Tree.kids (Edit.new e))))) .unk, .nils, .nils, .int .i64 0, .nils])], []⟩ : LSt U))) ∧ ((((Edit.kind e) : Int) == 1) = false → ((((Edit.kind e) : Int) == 2) = true → ((([] : List WEdit).length + (Edit.words e).length) * 32 ≤ 140737488355328) ∧ (LoopWp (awp cfg (know (know32 N)) (drawOk cfg (know (know32 N))) Try.f32.ntmps lv32 (cd Try.f32 [1, 0, 1, 0, 1, 1, 1, 0, 1, 1, 0, 1, 0, 0])) (head32_0 e 0 ([])) (AExit.inBlock 1 (seqK cfg (know (know32 N)) (drawOk cfg (know (know32 N))) Try.f32.ntmps lv32 (cd Try.f32 [1, 0, 1, 0, 1, 1, 1, 0, 1, 1, 1]) (AExit.inBlock 0 (seqK cfg (know (know32 N)) (drawOk cfg (know (know32 N))) Try.f32.ntmps lv32 (cd Try.f32 [1, 1]) Q)))))) ∧ ((((Edit.kind e) : Int) == 2) = false → ((((Edit.kind e) : Int) == 3) = true → (pre76 ((Edit.list e), (Edit.ops e), ())) ∧ (mu76 ((Edit.list e), (Edit.ops e), ()) < N) ∧ (Q .ret (⟨[(2, .ptr (.loc 2) 0)], [((.loc 2), [.int .i64 3, .int .i64 0, .nils, .nils, .int .i64 0, .nils, .nils, .nils, .nils, .int .i64 (Edit.list e), .slice (U := U) .op ((flushW (nrmOs (Edit.list e) (Edit.ops e) (Wst.mk [] [] []))).out) .unk])], []⟩ : LSt U))) ∧ ((((Edit.kind e) : Int) == 3) = false → Q .ret (⟨[(2, .ptr (.loc 2) 0)], [((.loc 2), [.int .i64 0, .int .i64 0, .nils, .nils, .int .i64 0, .nils, .nils, .nils, .nils, .int .i64 0, .nils])], []⟩ : LSt U))))) :
    W32 N e Q := by
  have e_ : (W32 N e Q) = (((((((Edit.kind e) == 1) = true → (pre45 ((Tree.mk (Tree.kind (Edit.old e)) (Tree.words (Edit.old e)) (Tree.kids (Edit.old e))), ())) ∧ (pre45 ((Tree.mk (Tree.kind (Edit.new e)) (Tree.words (Edit.new e)) (Tree.kids (Edit.new e))), ())) ∧ (Q .ret (⟨[(2, .ptr (.loc 2) 0)], [((.loc 2), [.int .i64 1, .int .i64 (Tree.kind (normT (Tree.mk (Tree.kind (Edit.old e)) (Tree.words (Edit.old e)) (Tree.kids (Edit.old e))))), .slice (U := U) .u64 (Tree.words (normT (Tree.mk (Tree.kind (Edit.old e)) (Tree.words (Edit.old e)) (Tree.kids (Edit.old e))))) .unk, .slice (U := U) .tree (Tree.kids (normT (Tree.mk (Tree.kind (Edit.old e)) (Tree.words (Edit.old e)) (Tree.kids (Edit.old e))))) .unk, .int .i64 (Tree.kind (normT (Tree.mk (Tree.kind (Edit.new e)) (Tree.words (Edit.new e)) (Tree.kids (Edit.new e))))), .slice (U := U) .u64 (Tree.words (normT (Tree.mk (Tree.kind (Edit.new e)) (Tree.words (Edit.new e)) (Tree.kids (Edit.new e))))) .unk, .slice (U := U) .tree (Tree.kids (normT (Tree.mk (Tree.kind (Edit.new e)) (Tree.words (Edit.new e)) (Tree.kids (Edit.new e))))) .unk, .nils, .nils, .int .i64 0, .nils])], []⟩ : LSt U))) ∧ (((Edit.kind e) == 1) = false → ((((Edit.kind e) == 2) = true → (((([] : List WEdit).length + (Edit.words e).length) * 32 ≤ 140737488355328) ∧ ((LoopWp (a32_KG22e N (cd Try.f32 [1, 0, 1, 0, 1, 1, 1, 0, 1, 1, 0, 1, 0, 0])) (head32_0 e 0 ([])) (AExit.inBlock 1 (s32_KG22e N (cd Try.f32 [1, 0, 1, 0, 1, 1, 1, 0, 1, 1, 1]) (AExit.inBlock 0 (s32_KG22e N (cd Try.f32 [1, 1]) Q)))))))) ∧ (((Edit.kind e) == 2) = false → ((((Edit.kind e) == 3) = true → (pre76 ((Edit.list e), (Edit.ops e), ())) ∧ (mu76 ((Edit.list e), (Edit.ops e), ()) < N) ∧ (Q .ret (⟨[(2, .ptr (.loc 2) 0)], [((.loc 2), [.int .i64 3, .int .i64 0, .nils, .nils, .int .i64 0, .nils, .nils, .nils, .nils, .int .i64 (Edit.list e), .slice (U := U) .op ((flushW (nrmOs (Edit.list e) (Edit.ops e) (Wst.mk [] [] []))).out) .unk])], []⟩ : LSt U))) ∧ (((Edit.kind e) == 3) = false → (Q .ret (⟨[(2, .ptr (.loc 2) 0)], [((.loc 2), [.int .i64 0, .int .i64 0, .nils, .nils, .int .i64 0, .nils, .nils, .nils, .nils, .int .i64 0, .nils])], []⟩ : LSt U))))))))))) := by kernel_rfl
  exact e_.mpr ⟨fun c_1 => ⟨(h.1 c_1).1, (h.1 c_1).2.1, (h.1 c_1).2.2⟩, fun c_1 => ⟨fun c_2 => ⟨((h.2 c_1).1 c_2).1, ((h.2 c_1).1 c_2).2⟩, fun c_2 => ⟨fun c_3 => ⟨(((h.2 c_1).2 c_2).1 c_3).1, (((h.2 c_1).2 c_2).1 c_3).2.1, (((h.2 c_1).2 c_2).1 c_3).2.2⟩, fun c_3 => (((h.2 c_1).2 c_2).2 c_3)⟩⟩⟩
abbrev W32_l0 (N : Nat) (e : Edit) (x4 : Int) (ml3_8 : List Kid) (N0 : LSt U → Prop) (Q : AExit → LSt U → Prop) := awp cfg (know (know32 N)) (drawOk cfg (know (know32 N))) Try.f32.ntmps lv32 (cd Try.f32 [1, 0, 1, 0, 1, 1, 1, 0, 1, 1, 0, 1, 0, 0]) (head32_0 e x4 ml3_8) (AExit.then N0 (AExit.inBlock 1 (seqK cfg (know (know32 N)) (drawOk cfg (know (know32 N))) Try.f32.ntmps lv32 (cd Try.f32 [1, 0, 1, 0, 1, 1, 1, 0, 1, 1, 1]) (AExit.inBlock 0 (seqK cfg (know (know32 N)) (drawOk cfg (know (know32 N))) Try.f32.ntmps lv32 (cd Try.f32 [1, 1]) Q)))))
theorem vc32_l0 (N : Nat) (e : Edit) (x4 : Int) (ml3_8 : List Kid) (N0 : LSt U → Prop) (Q : AExit → LSt U → Prop) (h : ∀ y_1, y_1 = (List.getD (Edit.kids e) (Int.toNat x4) (KidOf.mk 0 Edit.nil)) → ∀ y_2, y_2 = ((KidOf.e y_1)) → ∀ y_3, y_3 = ((nrmE y_2)) → ((decide ((x4 : Int) < ((Edit.kids e).length : Int))) = true → ((0 : Int) ≤ x4 ∧ x4 < ((Edit.kids e).length : Int)) ∧ ((0 : Int) ≤ x4 ∧ x4 < ((Edit.kids e).length : Int)) ∧ (pre32 (y_2, ())) ∧ (mu32 (y_2, ()) < N) ∧ ((ml3_8.length + ([(KidOf.mk (KidOf.at_ y_1) y_3 : Kid)]).length) * 208 ≤ 140737488355328) ∧ ((InR ((x4 : Int) + 1)) ∧ (N0 (head32_0 e ((x4 : Int) + 1) (ml3_8 ++ ([(KidOf.mk (KidOf.at_ y_1) y_3 : Kid)])))))) ∧ ((decide ((x4 : Int) < ((Edit.kids e).length : Int))) = false → Q .ret (⟨[(2, .ptr (.loc 2) 0)], [((.loc 2), [.int .i64 2, .int .i64 0, .nils, .nils, .int .i64 0, .nils, .nils, .slice (U := U) .wedit (([] : List WEdit) ++ (Edit.words e)) (.own (.l 2 7)), .slice (U := U) .kid ml3_8 (.own (.l 2 8)), .int .i64 0, .nils])], []⟩ : LSt U))) :
    W32_l0 N e x4 ml3_8 N0 Q := by
  have e_ : (W32_l0 N e x4 ml3_8 N0 Q) = (let y_1 := (List.getD (Edit.kids e) (Int.toNat x4) (KidOf.mk 0 Edit.nil)); let y_2 := (reEdit (KidOf.e y_1)); let y_3 := (reEdit (nrmE y_2)); (((decide ((x4 : Int) < ((Edit.kids e).length : Int))) = true → ((0 : Int) ≤ x4 ∧ x4 < ((Edit.kids e).length : Int)) ∧ ((0 : Int) ≤ x4 ∧ x4 < ((Edit.kids e).length : Int)) ∧ (pre32 (y_2, ())) ∧ (mu32 (y_2, ()) < N) ∧ ((ml3_8.length + ([(KidOf.mk (KidOf.at_ y_1) y_3 : Kid)]).length) * 208 ≤ 140737488355328) ∧ ((InR ((x4 : Int) + 1)) ∧ (N0 (head32_0 e ((x4 : Int) + 1) (ml3_8 ++ ([(KidOf.mk (KidOf.at_ y_1) y_3 : Kid)])))))) ∧ ((decide ((x4 : Int) < ((Edit.kids e).length : Int))) = false → (Q .ret (⟨[(2, .ptr (.loc 2) 0)], [((.loc 2), [.int .i64 2, .int .i64 0, .nils, .nils, .int .i64 0, .nils, .nils, .slice (U := U) .wedit (([] : List WEdit) ++ (Edit.words e)) (.own (.l 2 7)), .slice (U := U) .kid ml3_8 (.own (.l 2 8)), .int .i64 0, .nils])], []⟩ : LSt U))))) := by kernel_rfl
  exact e_.mpr (by intro y_1 y_2 y_3; have hh := h y_1 rfl y_2 (reEdit_eq _) y_3 (reEdit_eq _); exact ⟨fun c_4 => ⟨(hh.1 c_4).1, (hh.1 c_4).2.1, (hh.1 c_4).2.2.1, (hh.1 c_4).2.2.2.1, (hh.1 c_4).2.2.2.2.1, ⟨(hh.1 c_4).2.2.2.2.2.1, (hh.1 c_4).2.2.2.2.2.2⟩⟩, fun c_4 => (hh.2 c_4)⟩)
def Body32 (N : Nat) (e : Edit)  : Prop := awp cfg (know (know32 N)) (drawOk cfg (know (know32 N))) Try.f32.ntmps lv32 (cd Try.f32 []) (entry (args32.can (e, ())) []) (EndsQ cfg Try.f32.ntmps Try.f32.results.toList (res32 (e, ())) [])
abbrev HB32 : Prop := ∀ (N : Nat) (e : Edit) (_ : Unit), pre32 (e, ()) → mu32 (e, ()) < N + 1 → Body32 N e
noncomputable def know76 (N : Nat) : List (FuncId × Fs U) := (32, fs args32 (fun a => [pre32 a, mu32 a < N]) res32) :: (76, fs args76 (fun a => [pre76 a, mu76 a < N]) res76) :: [(45, spec45), (110, spec110), (111, spec1111)]
def lv76 : Lives U := fun i => match i with
  | 0 => ([(0, []), (1, [])], [])
  | 1 => ([(0, []), (1, []), (5, [.wr .op])], [])
  | 2 => ([(0, []), (1, []), (5, [.wr .op]), (6, [])], [])
  | 3 => ([(0, []), (1, []), (5, [.wr .op]), (6, []), (16, [])], [])
  | 4 => ([(0, []), (1, []), (5, [.wr .op]), (6, [])], [])
  | 5 => ([(0, []), (1, []), (5, [.wr .op]), (6, []), (7, []), (8, [])], [])
  | 6 => ([(0, []), (1, []), (5, [.wr .op]), (7, []), (8, []), (9, [])], [])
  | 7 => ([(0, []), (1, []), (5, [.wr .op]), (7, []), (8, []), (9, []), (33, [])], [])
  | 8 => ([(0, []), (1, []), (5, [.wr .op]), (8, []), (9, [])], [])
  | 9 => ([(0, []), (1, []), (5, [.wr .op]), (8, []), (9, []), (41, [])], [])
  | 10 => ([(0, []), (1, []), (5, [.wr .op]), (8, []), (9, []), (41, [])], [])
  | 11 => ([(0, []), (1, []), (5, [.wr .op]), (6, [])], [])
  | 12 => ([(0, []), (1, []), (5, [.wr .op]), (6, []), (51, [])], [])
  | 13 => ([(4, [])], [])
  | 14 => ([(0, []), (1, []), (5, [.wr .op]), (6, []), (11, [])], [((.loc 11), [])])
  | 15 => ([(0, []), (1, []), (5, [.wr .op]), (6, []), (11, []), (64, [])], [((.loc 11), [])])
  | 16 => ([(0, []), (1, []), (5, [.wr .op]), (6, []), (11, [])], [((.loc 11), [])])
  | 17 => ([(0, []), (1, []), (5, [.wr .op]), (6, []), (11, []), (75, [])], [((.loc 11), [])])
  | 18 => ([(0, []), (1, []), (5, [.wr .op]), (6, []), (11, [])], [((.loc 11), [])])
  | 19 => ([(0, []), (1, []), (5, [.wr .op]), (6, []), (11, []), (12, [])], [((.loc 11), [])])
  | 20 => ([(0, []), (1, []), (5, [.wr .op]), (6, []), (11, []), (12, []), (94, [])], [((.loc 11), [])])
  | 21 => ([(0, []), (1, []), (5, [.wr .op]), (6, [])], [])
  | 22 => ([(0, []), (1, []), (5, [.wr .op]), (6, [])], [])
  | 23 => ([(4, [])], [])
  | _ => ([], [])
def head76_0 (list : Int) (l : List Op) (x6 : Int) (re_5_0 : List Op) : LSt U := (⟨[(0, .c (.int .i64 list)), (1, .c (.slice (U := U) .op l .unk)), (5, .c (.mref (.e 5 0))), (6, .c (.int .i64 x6))], [], [(.e 5 0, LC.mk (U := U) .op re_5_0 0)]⟩ : LSt U)
def head76_1 (list : Int) (l : List Op) (x6 : Int) (re_5_0_a : List Op) : LSt U := (⟨[(0, .c (.int .i64 list)), (1, .c (.slice (U := U) .op l .unk)), (5, .c (.mref (.e 5 0))), (8, .c (.int .i64 (x6 + gapN ((l).drop (x6).toNat)))), (9, .c (.slice (U := U) .tree (gapT 2 ((l).drop (x6).toNat)) .unk)), (41, .c (.bool (decide ((0 : Int) < ((gapT 2 ((l).drop (x6).toNat)).length : Int)))))], [], [(.e 5 0, LC.mk (U := U) .op re_5_0_a 0)]⟩ : LSt U)
abbrev W76 (N : Nat) (list : Int) (l : List Op) (Q : AExit → LSt U → Prop) := awp cfg (know (know76 N)) (drawOk cfg (know (know76 N))) Try.f76.ntmps lv76 (cd Try.f76 []) (⟨[(0, .c (.int .i64 list)), (1, .c (.slice (U := U) .op l .unk))], [], []⟩ : LSt U) Q
abbrev a76_KG22e (N : Nat) := awp cfg (know (know76 N)) (drawOk cfg (know (know76 N))) Try.f76.ntmps lv76
abbrev s76_KG22e (N : Nat) := seqK cfg (know (know76 N)) (drawOk cfg (know (know76 N))) Try.f76.ntmps lv76
theorem vc76 (N : Nat) (list : Int) (l : List Op) (Q : AExit → LSt U → Prop) (h : LoopWp (awp cfg (know (know76 N)) (drawOk cfg (know (know76 N))) Try.f76.ntmps lv76 (cd Try.f76 [1, 1, 0, 1, 0, 0])) (head76_0 list l 0 ([])) (AExit.inBlock 0 (seqK cfg (know (know76 N)) (drawOk cfg (know (know76 N))) Try.f76.ntmps lv76 (cd Try.f76 [1, 1, 1]) Q))) :
    W76 N list l Q := by
  have e_ : (W76 N list l Q) = ((((LoopWp (a76_KG22e N (cd Try.f76 [1, 1, 0, 1, 0, 0])) (head76_0 list l 0 ([])) (AExit.inBlock 0 (s76_KG22e N (cd Try.f76 [1, 1, 1]) Q)))))) := by kernel_rfl
  exact e_.mpr h
abbrev W76_l0 (N : Nat) (list : Int) (l : List Op) (x6 : Int) (re_5_0 : List Op) (N0 : LSt U → Prop) (Q : AExit → LSt U → Prop) := awp cfg (know (know76 N)) (drawOk cfg (know (know76 N))) Try.f76.ntmps lv76 (cd Try.f76 [1, 1, 0, 1, 0, 0]) (head76_0 list l x6 re_5_0) (AExit.then N0 (AExit.inBlock 0 (seqK cfg (know (know76 N)) (drawOk cfg (know (know76 N))) Try.f76.ntmps lv76 (cd Try.f76 [1, 1, 1]) Q)))
theorem vc76_l0 (N : Nat) (list : Int) (l : List Op) (x6 : Int) (re_5_0 : List Op) (N0 : LSt U → Prop) (Q : AExit → LSt U → Prop) (h : ∀ y_1, y_1 = (Edit.mk 0 (Tree.mk 0 ([]) ([])) (Tree.mk 0 ([]) ([])) ([]) ([]) 0 ([])) → ((decide ((x6 : Int) < (l.length : Int))) = true → (pre110 (l, x6, 1, ())) ∧ ((pre110 (l, x6, 2, ())) ∧ (((decide ((0 : Int) < ((gapT 1 ((l).drop (x6).toNat)).length : Int))) = true → ((re_5_0.length + ([(OpOf.mk 1 0 (gapT 1 ((l).drop (x6).toNat)) y_1 : Op)]).length) * 240 ≤ 140737488355328) ∧ (((decide ((0 : Int) < ((gapT 2 ((l).drop (x6).toNat)).length : Int))) = true → (((re_5_0 ++ ([(OpOf.mk 1 0 (gapT 1 ((l).drop (x6).toNat)) y_1 : Op)])).length + ([(OpOf.mk 2 0 (gapT 2 ((l).drop (x6).toNat)) y_1 : Op)]).length) * 240 ≤ 140737488355328) ∧ (awp cfg (know (know76 N)) (drawOk cfg (know (know76 N))) Try.f76.ntmps lv76 (cd Try.f76 [1, 1, 0, 1, 0, 0, 1, 0, 0, 1, 1, 1, 1]) (head76_1 list l x6 ((re_5_0 ++ ([(OpOf.mk 1 0 (gapT 1 ((l).drop (x6).toNat)) y_1 : Op)])) ++ ([(OpOf.mk 2 0 (gapT 2 ((l).drop (x6).toNat)) y_1 : Op)]))) (AExit.inBlock 1 (seqK cfg (know (know76 N)) (drawOk cfg (know (know76 N))) Try.f76.ntmps lv76 (cd Try.f76 [1, 1, 0, 1, 0, 0, 1, 1]) (AExit.then N0 (AExit.inBlock 0 (seqK cfg (know (know76 N)) (drawOk cfg (know (know76 N))) Try.f76.ntmps lv76 (cd Try.f76 [1, 1, 1]) Q))))))) ∧ ((decide ((0 : Int) < ((gapT 2 ((l).drop (x6).toNat)).length : Int))) = false → awp cfg (know (know76 N)) (drawOk cfg (know (know76 N))) Try.f76.ntmps lv76 (cd Try.f76 [1, 1, 0, 1, 0, 0, 1, 0, 0, 1, 1, 1, 1]) (head76_1 list l x6 (re_5_0 ++ ([(OpOf.mk 1 0 (gapT 1 ((l).drop (x6).toNat)) y_1 : Op)]))) (AExit.inBlock 1 (seqK cfg (know (know76 N)) (drawOk cfg (know (know76 N))) Try.f76.ntmps lv76 (cd Try.f76 [1, 1, 0, 1, 0, 0, 1, 1]) (AExit.then N0 (AExit.inBlock 0 (seqK cfg (know (know76 N)) (drawOk cfg (know (know76 N))) Try.f76.ntmps lv76 (cd Try.f76 [1, 1, 1]) Q)))))))) ∧ ((decide ((0 : Int) < ((gapT 1 ((l).drop (x6).toNat)).length : Int))) = false → ((decide ((0 : Int) < ((gapT 2 ((l).drop (x6).toNat)).length : Int))) = true → ((re_5_0.length + ([(OpOf.mk 2 0 (gapT 2 ((l).drop (x6).toNat)) y_1 : Op)]).length) * 240 ≤ 140737488355328) ∧ (awp cfg (know (know76 N)) (drawOk cfg (know (know76 N))) Try.f76.ntmps lv76 (cd Try.f76 [1, 1, 0, 1, 0, 0, 1, 0, 0, 1, 1, 1, 1]) (head76_1 list l x6 (re_5_0 ++ ([(OpOf.mk 2 0 (gapT 2 ((l).drop (x6).toNat)) y_1 : Op)]))) (AExit.inBlock 1 (seqK cfg (know (know76 N)) (drawOk cfg (know (know76 N))) Try.f76.ntmps lv76 (cd Try.f76 [1, 1, 0, 1, 0, 0, 1, 1]) (AExit.then N0 (AExit.inBlock 0 (seqK cfg (know (know76 N)) (drawOk cfg (know (know76 N))) Try.f76.ntmps lv76 (cd Try.f76 [1, 1, 1]) Q))))))) ∧ ((decide ((0 : Int) < ((gapT 2 ((l).drop (x6).toNat)).length : Int))) = false → awp cfg (know (know76 N)) (drawOk cfg (know (know76 N))) Try.f76.ntmps lv76 (cd Try.f76 [1, 1, 0, 1, 0, 0, 1, 0, 0, 1, 1, 1, 1]) (head76_1 list l x6 re_5_0) (AExit.inBlock 1 (seqK cfg (know (know76 N)) (drawOk cfg (know (know76 N))) Try.f76.ntmps lv76 (cd Try.f76 [1, 1, 0, 1, 0, 0, 1, 1]) (AExit.then N0 (AExit.inBlock 0 (seqK cfg (know (know76 N)) (drawOk cfg (know (know76 N))) Try.f76.ntmps lv76 (cd Try.f76 [1, 1, 1]) Q)))))))))) ∧ ((decide ((x6 : Int) < (l.length : Int))) = false → Q .ret (⟨[(4, .c (.slice (U := U) .op re_5_0 (.own (.e 4 0))))], [], []⟩ : LSt U))) :
    W76_l0 N list l x6 re_5_0 N0 Q := by
  have e_ : (W76_l0 N list l x6 re_5_0 N0 Q) = (let y_1 := (Edit.mk 0 (Tree.mk 0 ([]) ([])) (Tree.mk 0 ([]) ([])) ([]) ([]) 0 ([])); let zz1 := (decide ((0 : Int) < ((gapT 1 ((l).drop (x6).toNat)).length : Int))); let zz0 := (decide ((0 : Int) < ((gapT 2 ((l).drop (x6).toNat)).length : Int))); (((decide ((x6 : Int) < (l.length : Int))) = true → (pre110 (l, x6, 1, ())) ∧ ((pre110 (l, x6, 2, ())) ∧ (((zz1 = true → ((re_5_0.length + ([(OpOf.mk 1 0 (gapT 1 ((l).drop (x6).toNat)) y_1 : Op)]).length) * 240 ≤ 140737488355328) ∧ (((zz0 = true → (((re_5_0 ++ ([(OpOf.mk 1 0 (gapT 1 ((l).drop (x6).toNat)) y_1 : Op)])).length + ([(OpOf.mk 2 0 (gapT 2 ((l).drop (x6).toNat)) y_1 : Op)]).length) * 240 ≤ 140737488355328) ∧ (a76_KG22e N (cd Try.f76 [1, 1, 0, 1, 0, 0, 1, 0, 0, 1, 1, 1, 1]) (head76_1 list l x6 ((re_5_0 ++ ([(OpOf.mk 1 0 (gapT 1 ((l).drop (x6).toNat)) y_1 : Op)])) ++ ([(OpOf.mk 2 0 (gapT 2 ((l).drop (x6).toNat)) y_1 : Op)]))) (AExit.inBlock 1 (s76_KG22e N (cd Try.f76 [1, 1, 0, 1, 0, 0, 1, 1]) (AExit.then N0 (AExit.inBlock 0 (s76_KG22e N (cd Try.f76 [1, 1, 1]) Q))))))) ∧ (zz0 = false → a76_KG22e N (cd Try.f76 [1, 1, 0, 1, 0, 0, 1, 0, 0, 1, 1, 1, 1]) (head76_1 list l x6 (re_5_0 ++ ([(OpOf.mk 1 0 (gapT 1 ((l).drop (x6).toNat)) y_1 : Op)]))) (AExit.inBlock 1 (s76_KG22e N (cd Try.f76 [1, 1, 0, 1, 0, 0, 1, 1]) (AExit.then N0 (AExit.inBlock 0 (s76_KG22e N (cd Try.f76 [1, 1, 1]) Q))))))))) ∧ (zz1 = false → ((zz0 = true → ((re_5_0.length + ([(OpOf.mk 2 0 (gapT 2 ((l).drop (x6).toNat)) y_1 : Op)]).length) * 240 ≤ 140737488355328) ∧ (a76_KG22e N (cd Try.f76 [1, 1, 0, 1, 0, 0, 1, 0, 0, 1, 1, 1, 1]) (head76_1 list l x6 (re_5_0 ++ ([(OpOf.mk 2 0 (gapT 2 ((l).drop (x6).toNat)) y_1 : Op)]))) (AExit.inBlock 1 (s76_KG22e N (cd Try.f76 [1, 1, 0, 1, 0, 0, 1, 1]) (AExit.then N0 (AExit.inBlock 0 (s76_KG22e N (cd Try.f76 [1, 1, 1]) Q))))))) ∧ (zz0 = false → a76_KG22e N (cd Try.f76 [1, 1, 0, 1, 0, 0, 1, 0, 0, 1, 1, 1, 1]) (head76_1 list l x6 re_5_0) (AExit.inBlock 1 (s76_KG22e N (cd Try.f76 [1, 1, 0, 1, 0, 0, 1, 1]) (AExit.then N0 (AExit.inBlock 0 (s76_KG22e N (cd Try.f76 [1, 1, 1]) Q)))))))))))) ∧ ((decide ((x6 : Int) < (l.length : Int))) = false → (Q .ret (⟨[(4, .c (.slice (U := U) .op re_5_0 (.own (.e 4 0))))], [], []⟩ : LSt U))))) := by kernel_rfl
  exact e_.mpr (by intro y_1; have hh := h y_1 rfl; exact ⟨fun c_5 => ⟨(hh.1 c_5).1, ⟨(hh.1 c_5).2.1, ⟨fun c_6 => ⟨((hh.1 c_5).2.2.1 c_6).1, ⟨fun c_7 => ⟨(((hh.1 c_5).2.2.1 c_6).2.1 c_7).1, (((hh.1 c_5).2.2.1 c_6).2.1 c_7).2⟩, fun c_7 => (((hh.1 c_5).2.2.1 c_6).2.2 c_7)⟩⟩, fun c_6 => ⟨fun c_8 => ⟨(((hh.1 c_5).2.2.2 c_6).1 c_8).1, (((hh.1 c_5).2.2.2 c_6).1 c_8).2⟩, fun c_8 => (((hh.1 c_5).2.2.2 c_6).2 c_8)⟩⟩⟩⟩, fun c_5 => (hh.2 c_5)⟩)
abbrev W76_c1 (N : Nat) (list : Int) (l : List Op) (x6 : Int) (re_5_0_a : List Op) (N0 : LSt U → Prop) (Q : AExit → LSt U → Prop) := awp cfg (know (know76 N)) (drawOk cfg (know (know76 N))) Try.f76.ntmps lv76 (cd Try.f76 [1, 1, 0, 1, 0, 0, 1, 0, 0, 1, 1, 1, 1]) (head76_1 list l x6 re_5_0_a) (AExit.inBlock 1 (seqK cfg (know (know76 N)) (drawOk cfg (know (know76 N))) Try.f76.ntmps lv76 (cd Try.f76 [1, 1, 0, 1, 0, 0, 1, 1]) (AExit.then N0 (AExit.inBlock 0 (seqK cfg (know (know76 N)) (drawOk cfg (know (know76 N))) Try.f76.ntmps lv76 (cd Try.f76 [1, 1, 1]) Q)))))
theorem vc76_c1 (N : Nat) (list : Int) (l : List Op) (x6 : Int) (re_5_0_a : List Op) (N0 : LSt U → Prop) (Q : AExit → LSt U → Prop) (h : ∀ y_1, y_1 = (List.getD l (Int.toNat (x6 + gapN ((l).drop (x6).toNat))) Op.nil) → ∀ y_2, y_2 = (Edit.mk 0 (Tree.mk 0 ([]) ([])) (Tree.mk 0 ([]) ([])) ([]) ([]) 0 ([])) → ∀ y_3, y_3 = (List.getD re_5_0_a (Int.toNat (((re_5_0_a.length : Int) : Int) - 1)) Op.nil) → ∀ y_4, y_4 = ((OpOf.e y_1)) → ∀ y_5, y_5 = ((OpOf.e y_3)) → ∀ y_6, y_6 = ((nrmE y_4)) → ((decide (((l.length : Int) : Int) ≤ (x6 + gapN ((l).drop (x6).toNat)))) = true → Q .ret (⟨[(4, .c (.slice (U := U) .op re_5_0_a (.own (.e 4 0))))], [], []⟩ : LSt U)) ∧ ((decide (((l.length : Int) : Int) ≤ (x6 + gapN ((l).drop (x6).toNat)))) = false → ((0 : Int) ≤ (x6 + gapN ((l).drop (x6).toNat)) ∧ (x6 + gapN ((l).drop (x6).toNat)) < (l.length : Int)) ∧ (((0 : Int) ≤ (x6 + gapN ((l).drop (x6).toNat)) ∧ (x6 + gapN ((l).drop (x6).toNat)) < (l.length : Int)) ∧ (((((OpOf.kind y_1) : Int) == 3) = true → ((0 : Int) ≤ (x6 + gapN ((l).drop (x6).toNat)) ∧ (x6 + gapN ((l).drop (x6).toNat)) < (l.length : Int)) ∧ (pre32 (y_4, ())) ∧ (mu32 (y_4, ()) < N) ∧ ((pre1111 (list, y_6, ())) ∧ (((idleE list y_6) = true → ((bif ((0 : Int) == 0) then (decide ((0 : Int) < (re_5_0_a.length : Int))) else false) = true → InR (((re_5_0_a.length : Int) : Int) - 1)) ∧ ((bif ((0 : Int) == 0) then (decide ((0 : Int) < (re_5_0_a.length : Int))) else false) = true → (0 : Int) ≤ (((re_5_0_a.length : Int) : Int) - 1) ∧ (((re_5_0_a.length : Int) : Int) - 1) < (re_5_0_a.length : Int)) ∧ (((bif (bif ((0 : Int) == 0) then (decide ((0 : Int) < (re_5_0_a.length : Int))) else false) then (((OpOf.kind y_3) : Int) == 0) else false) = true → (InR (((re_5_0_a.length : Int) : Int) - 1)) ∧ (InR (((re_5_0_a.length : Int) : Int) - 1)) ∧ ((0 : Int) ≤ (((re_5_0_a.length : Int) : Int) - 1) ∧ (((re_5_0_a.length : Int) : Int) - 1) < (re_5_0_a.length : Int)) ∧ (InR (((OpOf.n y_3) : Int) + 1)) ∧ ((0 : Int) ≤ (((re_5_0_a.length : Int) : Int) - 1) ∧ (((re_5_0_a.length : Int) : Int) - 1) < (re_5_0_a.length : Int)) ∧ ((0 : Nat) ≤ (Int.toNat (((re_5_0_a.length : Int) : Int) - 1))) ∧ ((InR (((x6 + gapN ((l).drop (x6).toNat)) : Int) + 1)) ∧ (N0 (head76_0 list l (((x6 + gapN ((l).drop (x6).toNat)) : Int) + 1) (List.set re_5_0_a (Int.toNat (((re_5_0_a.length : Int) : Int) - 1)) (OpOf.mk (OpOf.kind y_3) (((OpOf.n y_3) : Int) + 1) (OpOf.l y_3) y_5 : Op)))))) ∧ ((bif (bif ((0 : Int) == 0) then (decide ((0 : Int) < (re_5_0_a.length : Int))) else false) then (((OpOf.kind y_3) : Int) == 0) else false) = false → ((re_5_0_a.length + ([(OpOf.mk 0 1 ([]) y_2 : Op)]).length) * 240 ≤ 140737488355328) ∧ ((InR (((x6 + gapN ((l).drop (x6).toNat)) : Int) + 1)) ∧ (N0 (head76_0 list l (((x6 + gapN ((l).drop (x6).toNat)) : Int) + 1) (re_5_0_a ++ ([(OpOf.mk 0 1 ([]) y_2 : Op)])))))))) ∧ ((idleE list y_6) = false → ((bif ((3 : Int) == 0) then (decide ((0 : Int) < (re_5_0_a.length : Int))) else false) = true → InR (((re_5_0_a.length : Int) : Int) - 1)) ∧ ((bif ((3 : Int) == 0) then (decide ((0 : Int) < (re_5_0_a.length : Int))) else false) = true → (0 : Int) ≤ (((re_5_0_a.length : Int) : Int) - 1) ∧ (((re_5_0_a.length : Int) : Int) - 1) < (re_5_0_a.length : Int)) ∧ (((bif (bif ((3 : Int) == 0) then (decide ((0 : Int) < (re_5_0_a.length : Int))) else false) then (((OpOf.kind y_3) : Int) == 0) else false) = true → (InR (((re_5_0_a.length : Int) : Int) - 1)) ∧ (InR (((re_5_0_a.length : Int) : Int) - 1)) ∧ ((0 : Int) ≤ (((re_5_0_a.length : Int) : Int) - 1) ∧ (((re_5_0_a.length : Int) : Int) - 1) < (re_5_0_a.length : Int)) ∧ (InR (((OpOf.n y_3) : Int) + 0)) ∧ ((0 : Int) ≤ (((re_5_0_a.length : Int) : Int) - 1) ∧ (((re_5_0_a.length : Int) : Int) - 1) < (re_5_0_a.length : Int)) ∧ ((0 : Nat) ≤ (Int.toNat (((re_5_0_a.length : Int) : Int) - 1))) ∧ ((InR (((x6 + gapN ((l).drop (x6).toNat)) : Int) + 1)) ∧ (N0 (head76_0 list l (((x6 + gapN ((l).drop (x6).toNat)) : Int) + 1) (List.set re_5_0_a (Int.toNat (((re_5_0_a.length : Int) : Int) - 1)) (OpOf.mk (OpOf.kind y_3) (((OpOf.n y_3) : Int) + 0) (OpOf.l y_3) y_5 : Op)))))) ∧ ((bif (bif ((3 : Int) == 0) then (decide ((0 : Int) < (re_5_0_a.length : Int))) else false) then (((OpOf.kind y_3) : Int) == 0) else false) = false → ((re_5_0_a.length + ([(OpOf.mk 3 0 ([]) y_6 : Op)]).length) * 240 ≤ 140737488355328) ∧ ((InR (((x6 + gapN ((l).drop (x6).toNat)) : Int) + 1)) ∧ (N0 (head76_0 list l (((x6 + gapN ((l).drop (x6).toNat)) : Int) + 1) (re_5_0_a ++ ([(OpOf.mk 3 0 ([]) y_6 : Op)]))))))))))) ∧ ((((OpOf.kind y_1) : Int) == 3) = false → ((bif ((0 : Int) == 0) then (decide ((0 : Int) < (re_5_0_a.length : Int))) else false) = true → InR (((re_5_0_a.length : Int) : Int) - 1)) ∧ ((bif ((0 : Int) == 0) then (decide ((0 : Int) < (re_5_0_a.length : Int))) else false) = true → (0 : Int) ≤ (((re_5_0_a.length : Int) : Int) - 1) ∧ (((re_5_0_a.length : Int) : Int) - 1) < (re_5_0_a.length : Int)) ∧ (((bif (bif ((0 : Int) == 0) then (decide ((0 : Int) < (re_5_0_a.length : Int))) else false) then (((OpOf.kind y_3) : Int) == 0) else false) = true → (InR (((re_5_0_a.length : Int) : Int) - 1)) ∧ (InR (((re_5_0_a.length : Int) : Int) - 1)) ∧ ((0 : Int) ≤ (((re_5_0_a.length : Int) : Int) - 1) ∧ (((re_5_0_a.length : Int) : Int) - 1) < (re_5_0_a.length : Int)) ∧ (InR (((OpOf.n y_3) : Int) + (OpOf.n y_1))) ∧ ((0 : Int) ≤ (((re_5_0_a.length : Int) : Int) - 1) ∧ (((re_5_0_a.length : Int) : Int) - 1) < (re_5_0_a.length : Int)) ∧ ((0 : Nat) ≤ (Int.toNat (((re_5_0_a.length : Int) : Int) - 1))) ∧ ((InR (((x6 + gapN ((l).drop (x6).toNat)) : Int) + 1)) ∧ (N0 (head76_0 list l (((x6 + gapN ((l).drop (x6).toNat)) : Int) + 1) (List.set re_5_0_a (Int.toNat (((re_5_0_a.length : Int) : Int) - 1)) (OpOf.mk (OpOf.kind y_3) (((OpOf.n y_3) : Int) + (OpOf.n y_1)) (OpOf.l y_3) y_5 : Op)))))) ∧ ((bif (bif ((0 : Int) == 0) then (decide ((0 : Int) < (re_5_0_a.length : Int))) else false) then (((OpOf.kind y_3) : Int) == 0) else false) = false → ((re_5_0_a.length + ([(OpOf.mk 0 (OpOf.n y_1) ([]) y_2 : Op)]).length) * 240 ≤ 140737488355328) ∧ ((InR (((x6 + gapN ((l).drop (x6).toNat)) : Int) + 1)) ∧ (N0 (head76_0 list l (((x6 + gapN ((l).drop (x6).toNat)) : Int) + 1) (re_5_0_a ++ ([(OpOf.mk 0 (OpOf.n y_1) ([]) y_2 : Op)])))))))))))) :
    W76_c1 N list l x6 re_5_0_a N0 Q := by
  have e_ : (W76_c1 N list l x6 re_5_0_a N0 Q) = (let y_1 := (List.getD l (Int.toNat (x6 + gapN ((l).drop (x6).toNat))) Op.nil); let y_2 := (Edit.mk 0 (Tree.mk 0 ([]) ([])) (Tree.mk 0 ([]) ([])) ([]) ([]) 0 ([])); let y_3 := (List.getD re_5_0_a (Int.toNat ((re_5_0_a.length : Int) - 1)) Op.nil); let y_4 := (reEdit (OpOf.e y_1)); let y_5 := (reEdit (OpOf.e y_3)); let y_6 := (reEdit (nrmE y_4)); let zz3 := (decide ((l.length : Int) ≤ (x6 + gapN ((l).drop (x6).toNat)))); let zz2 := ((OpOf.kind y_3) == 0); let zz1 := (bif ((3 : Int) == 0) then (decide ((0 : Int) < (re_5_0_a.length : Int))) else false); let zz0 := (bif ((0 : Int) == 0) then (decide ((0 : Int) < (re_5_0_a.length : Int))) else false); (((zz3 = true → (Q .ret (⟨[(4, .c (.slice (U := U) .op re_5_0_a (.own (.e 4 0))))], [], []⟩ : LSt U))) ∧ (zz3 = false → ((0 : Int) ≤ (x6 + gapN ((l).drop (x6).toNat)) ∧ (x6 + gapN ((l).drop (x6).toNat)) < (l.length : Int)) ∧ (((0 : Int) ≤ (x6 + gapN ((l).drop (x6).toNat)) ∧ (x6 + gapN ((l).drop (x6).toNat)) < (l.length : Int)) ∧ ((((OpOf.kind y_1) == 3) = true → ((0 : Int) ≤ (x6 + gapN ((l).drop (x6).toNat)) ∧ (x6 + gapN ((l).drop (x6).toNat)) < (l.length : Int)) ∧ (pre32 (y_4, ())) ∧ (mu32 (y_4, ()) < N) ∧ ((pre1111 (list, y_6, ())) ∧ (((idleE list y_6) = true → (((TrKG22e (((0 : Int) == 0) = true)) ∧ ((TrKG22e (((0 : Int) == 0) = true))) ∧ (TrKG22e (zz0 = true)) ∧ (zz0 = true → InR ((re_5_0_a.length : Int) - 1)) ∧ (TrKG22e (zz0 = true)) ∧ (TrKG22e (zz0 = true)) ∧ (zz0 = true → (0 : Int) ≤ ((re_5_0_a.length : Int) - 1) ∧ ((re_5_0_a.length : Int) - 1) < (re_5_0_a.length : Int)) ∧ (TrKG22e (zz0 = true)) ∧ (TrKG22e (zz0 = true)) ∧ (TrKG22e (zz0 = true)) ∧ ((TrKG22e (zz0 = true))) ∧ (((bif zz0 then zz2 else false) = true → (InR ((re_5_0_a.length : Int) - 1)) ∧ (InR ((re_5_0_a.length : Int) - 1)) ∧ ((0 : Int) ≤ ((re_5_0_a.length : Int) - 1) ∧ ((re_5_0_a.length : Int) - 1) < (re_5_0_a.length : Int)) ∧ (InR ((OpOf.n y_3) + 1)) ∧ ((0 : Int) ≤ ((re_5_0_a.length : Int) - 1) ∧ ((re_5_0_a.length : Int) - 1) < (re_5_0_a.length : Int)) ∧ ((0 : Nat) ≤ (Int.toNat ((re_5_0_a.length : Int) - 1))) ∧ ((InR (((x6 + gapN ((l).drop (x6).toNat)) : Int) + 1)) ∧ (N0 (head76_0 list l (((x6 + gapN ((l).drop (x6).toNat)) : Int) + 1) (List.set re_5_0_a (Int.toNat ((re_5_0_a.length : Int) - 1)) (OpOf.mk (OpOf.kind y_3) ((OpOf.n y_3) + 1) (OpOf.l y_3) y_5 : Op)))))) ∧ ((bif zz0 then zz2 else false) = false → ((re_5_0_a.length + ([(OpOf.mk 0 1 ([]) y_2 : Op)]).length) * 240 ≤ 140737488355328) ∧ ((InR (((x6 + gapN ((l).drop (x6).toNat)) : Int) + 1)) ∧ (N0 (head76_0 list l (((x6 + gapN ((l).drop (x6).toNat)) : Int) + 1) (re_5_0_a ++ ([(OpOf.mk 0 1 ([]) y_2 : Op)])))))))))) ∧ ((idleE list y_6) = false → ((TrKG22e (((3 : Int) == 0) = true)) ∧ ((TrKG22e (((3 : Int) == 0) = true))) ∧ (TrKG22e (zz1 = true)) ∧ (zz1 = true → InR ((re_5_0_a.length : Int) - 1)) ∧ (TrKG22e (zz1 = true)) ∧ (TrKG22e (zz1 = true)) ∧ (zz1 = true → (0 : Int) ≤ ((re_5_0_a.length : Int) - 1) ∧ ((re_5_0_a.length : Int) - 1) < (re_5_0_a.length : Int)) ∧ (TrKG22e (zz1 = true)) ∧ (TrKG22e (zz1 = true)) ∧ (TrKG22e (zz1 = true)) ∧ ((TrKG22e (zz1 = true))) ∧ (((bif zz1 then zz2 else false) = true → (InR ((re_5_0_a.length : Int) - 1)) ∧ (InR ((re_5_0_a.length : Int) - 1)) ∧ ((0 : Int) ≤ ((re_5_0_a.length : Int) - 1) ∧ ((re_5_0_a.length : Int) - 1) < (re_5_0_a.length : Int)) ∧ (InR ((OpOf.n y_3) + 0)) ∧ ((0 : Int) ≤ ((re_5_0_a.length : Int) - 1) ∧ ((re_5_0_a.length : Int) - 1) < (re_5_0_a.length : Int)) ∧ ((0 : Nat) ≤ (Int.toNat ((re_5_0_a.length : Int) - 1))) ∧ ((InR (((x6 + gapN ((l).drop (x6).toNat)) : Int) + 1)) ∧ (N0 (head76_0 list l (((x6 + gapN ((l).drop (x6).toNat)) : Int) + 1) (List.set re_5_0_a (Int.toNat ((re_5_0_a.length : Int) - 1)) (OpOf.mk (OpOf.kind y_3) ((OpOf.n y_3) + 0) (OpOf.l y_3) y_5 : Op)))))) ∧ ((bif zz1 then zz2 else false) = false → ((re_5_0_a.length + ([(OpOf.mk 3 0 ([]) y_6 : Op)]).length) * 240 ≤ 140737488355328) ∧ ((InR (((x6 + gapN ((l).drop (x6).toNat)) : Int) + 1)) ∧ (N0 (head76_0 list l (((x6 + gapN ((l).drop (x6).toNat)) : Int) + 1) (re_5_0_a ++ ([(OpOf.mk 3 0 ([]) y_6 : Op)])))))))))))) ∧ (((OpOf.kind y_1) == 3) = false → ((TrKG22e (((0 : Int) == 0) = true)) ∧ ((TrKG22e (((0 : Int) == 0) = true))) ∧ (TrKG22e (zz0 = true)) ∧ (zz0 = true → InR ((re_5_0_a.length : Int) - 1)) ∧ (TrKG22e (zz0 = true)) ∧ (TrKG22e (zz0 = true)) ∧ (zz0 = true → (0 : Int) ≤ ((re_5_0_a.length : Int) - 1) ∧ ((re_5_0_a.length : Int) - 1) < (re_5_0_a.length : Int)) ∧ (TrKG22e (zz0 = true)) ∧ (TrKG22e (zz0 = true)) ∧ (TrKG22e (zz0 = true)) ∧ ((TrKG22e (zz0 = true))) ∧ (((bif zz0 then zz2 else false) = true → (InR ((re_5_0_a.length : Int) - 1)) ∧ (InR ((re_5_0_a.length : Int) - 1)) ∧ ((0 : Int) ≤ ((re_5_0_a.length : Int) - 1) ∧ ((re_5_0_a.length : Int) - 1) < (re_5_0_a.length : Int)) ∧ (InR ((OpOf.n y_3) + (OpOf.n y_1))) ∧ ((0 : Int) ≤ ((re_5_0_a.length : Int) - 1) ∧ ((re_5_0_a.length : Int) - 1) < (re_5_0_a.length : Int)) ∧ ((0 : Nat) ≤ (Int.toNat ((re_5_0_a.length : Int) - 1))) ∧ ((InR (((x6 + gapN ((l).drop (x6).toNat)) : Int) + 1)) ∧ (N0 (head76_0 list l (((x6 + gapN ((l).drop (x6).toNat)) : Int) + 1) (List.set re_5_0_a (Int.toNat ((re_5_0_a.length : Int) - 1)) (OpOf.mk (OpOf.kind y_3) ((OpOf.n y_3) + (OpOf.n y_1)) (OpOf.l y_3) y_5 : Op)))))) ∧ ((bif zz0 then zz2 else false) = false → ((re_5_0_a.length + ([(OpOf.mk 0 (OpOf.n y_1) ([]) y_2 : Op)]).length) * 240 ≤ 140737488355328) ∧ ((InR (((x6 + gapN ((l).drop (x6).toNat)) : Int) + 1)) ∧ (N0 (head76_0 list l (((x6 + gapN ((l).drop (x6).toNat)) : Int) + 1) (re_5_0_a ++ ([(OpOf.mk 0 (OpOf.n y_1) ([]) y_2 : Op)]))))))))))))))) := by kernel_rfl
  exact e_.mpr (by intro y_1 y_2 y_3 y_4 y_5 y_6; have hh := h y_1 rfl y_2 rfl y_3 rfl y_4 (reEdit_eq _) y_5 (reEdit_eq _) y_6 (reEdit_eq _); exact ⟨fun c_9 => (hh.1 c_9), fun c_9 => ⟨(hh.2 c_9).1, ⟨(hh.2 c_9).2.1, ⟨fun c_10 => ⟨((hh.2 c_9).2.2.1 c_10).1, ((hh.2 c_9).2.2.1 c_10).2.1, ((hh.2 c_9).2.2.1 c_10).2.2.1, ⟨((hh.2 c_9).2.2.1 c_10).2.2.2.1, ⟨fun c_11 => ⟨id, (by generalize ((0 : Int) == 0) = b0; revert b0; decide), id, (((hh.2 c_9).2.2.1 c_10).2.2.2.2.1 c_11).1, id, id, (((hh.2 c_9).2.2.1 c_10).2.2.2.2.1 c_11).2.1, id, id, id, (by generalize (decide ((0 : Int) < (re_5_0_a.length : Int))) = b0; generalize ((0 : Int) == 0) = b1; revert b0 b1; decide), ⟨fun c_12 => ⟨((((hh.2 c_9).2.2.1 c_10).2.2.2.2.1 c_11).2.2.1 c_12).1, ((((hh.2 c_9).2.2.1 c_10).2.2.2.2.1 c_11).2.2.1 c_12).2.1, ((((hh.2 c_9).2.2.1 c_10).2.2.2.2.1 c_11).2.2.1 c_12).2.2.1, ((((hh.2 c_9).2.2.1 c_10).2.2.2.2.1 c_11).2.2.1 c_12).2.2.2.1, ((((hh.2 c_9).2.2.1 c_10).2.2.2.2.1 c_11).2.2.1 c_12).2.2.2.2.1, ((((hh.2 c_9).2.2.1 c_10).2.2.2.2.1 c_11).2.2.1 c_12).2.2.2.2.2.1, ⟨((((hh.2 c_9).2.2.1 c_10).2.2.2.2.1 c_11).2.2.1 c_12).2.2.2.2.2.2.1, ((((hh.2 c_9).2.2.1 c_10).2.2.2.2.1 c_11).2.2.1 c_12).2.2.2.2.2.2.2⟩⟩, fun c_12 => ⟨((((hh.2 c_9).2.2.1 c_10).2.2.2.2.1 c_11).2.2.2 c_12).1, ⟨((((hh.2 c_9).2.2.1 c_10).2.2.2.2.1 c_11).2.2.2 c_12).2.1, ((((hh.2 c_9).2.2.1 c_10).2.2.2.2.1 c_11).2.2.2 c_12).2.2⟩⟩⟩⟩, fun c_11 => ⟨id, (by generalize ((3 : Int) == 0) = b0; revert b0; decide), id, (((hh.2 c_9).2.2.1 c_10).2.2.2.2.2 c_11).1, id, id, (((hh.2 c_9).2.2.1 c_10).2.2.2.2.2 c_11).2.1, id, id, id, (by generalize (decide ((0 : Int) < (re_5_0_a.length : Int))) = b0; generalize ((3 : Int) == 0) = b1; revert b0 b1; decide), ⟨fun c_13 => ⟨((((hh.2 c_9).2.2.1 c_10).2.2.2.2.2 c_11).2.2.1 c_13).1, ((((hh.2 c_9).2.2.1 c_10).2.2.2.2.2 c_11).2.2.1 c_13).2.1, ((((hh.2 c_9).2.2.1 c_10).2.2.2.2.2 c_11).2.2.1 c_13).2.2.1, ((((hh.2 c_9).2.2.1 c_10).2.2.2.2.2 c_11).2.2.1 c_13).2.2.2.1, ((((hh.2 c_9).2.2.1 c_10).2.2.2.2.2 c_11).2.2.1 c_13).2.2.2.2.1, ((((hh.2 c_9).2.2.1 c_10).2.2.2.2.2 c_11).2.2.1 c_13).2.2.2.2.2.1, ⟨((((hh.2 c_9).2.2.1 c_10).2.2.2.2.2 c_11).2.2.1 c_13).2.2.2.2.2.2.1, ((((hh.2 c_9).2.2.1 c_10).2.2.2.2.2 c_11).2.2.1 c_13).2.2.2.2.2.2.2⟩⟩, fun c_13 => ⟨((((hh.2 c_9).2.2.1 c_10).2.2.2.2.2 c_11).2.2.2 c_13).1, ⟨((((hh.2 c_9).2.2.1 c_10).2.2.2.2.2 c_11).2.2.2 c_13).2.1, ((((hh.2 c_9).2.2.1 c_10).2.2.2.2.2 c_11).2.2.2 c_13).2.2⟩⟩⟩⟩⟩⟩⟩, fun c_10 => ⟨id, (by generalize ((0 : Int) == 0) = b0; revert b0; decide), id, ((hh.2 c_9).2.2.2 c_10).1, id, id, ((hh.2 c_9).2.2.2 c_10).2.1, id, id, id, (by generalize (decide ((0 : Int) < (re_5_0_a.length : Int))) = b0; generalize ((0 : Int) == 0) = b1; revert b0 b1; decide), ⟨fun c_14 => ⟨(((hh.2 c_9).2.2.2 c_10).2.2.1 c_14).1, (((hh.2 c_9).2.2.2 c_10).2.2.1 c_14).2.1, (((hh.2 c_9).2.2.2 c_10).2.2.1 c_14).2.2.1, (((hh.2 c_9).2.2.2 c_10).2.2.1 c_14).2.2.2.1, (((hh.2 c_9).2.2.2 c_10).2.2.1 c_14).2.2.2.2.1, (((hh.2 c_9).2.2.2 c_10).2.2.1 c_14).2.2.2.2.2.1, ⟨(((hh.2 c_9).2.2.2 c_10).2.2.1 c_14).2.2.2.2.2.2.1, (((hh.2 c_9).2.2.2 c_10).2.2.1 c_14).2.2.2.2.2.2.2⟩⟩, fun c_14 => ⟨(((hh.2 c_9).2.2.2 c_10).2.2.2 c_14).1, ⟨(((hh.2 c_9).2.2.2 c_10).2.2.2 c_14).2.1, (((hh.2 c_9).2.2.2 c_10).2.2.2 c_14).2.2⟩⟩⟩⟩⟩⟩⟩⟩)
def Body76 (N : Nat) (list : Int) (l : List Op)  : Prop := awp cfg (know (know76 N)) (drawOk cfg (know (know76 N))) Try.f76.ntmps lv76 (cd Try.f76 []) (entry (args76.can (list, l, ())) []) (EndsQ cfg Try.f76.ntmps Try.f76.results.toList (res76 (list, l, ())) [])
abbrev HB76 : Prop := ∀ (N : Nat) (list : Int) (l : List Op) (_ : Unit), pre76 (list, l, ()) → mu76 (list, l, ()) < N + 1 → Body76 N list l
theorem make32_78 (c45 : Contract Try.prog cfg 45 spec45) (c110 : Contract Try.prog cfg 110 spec110) (c1111 : Contract Try.prog cfg 111 spec1111) (ha : HB32) (hb : HB76) : Contract Try.prog cfg 32 spec32 ∧ Contract Try.prog cfg 76 spec76 :=
  contract_mut2 (μA := mu32) (μB := mu76) (l := [(45, spec45), (110, spec110), (111, spec1111)]) cfgOk rfl (⟨c45, c110, c1111, trivial⟩) lv32 lv76 Try.func32 Try.func76 rfl rfl rfl rfl 1 2 (fun _ => rfl) (fun _ => rfl) (by decide) (by decide) (fun N ⟨e, _⟩ => ha N e ()) (fun N ⟨list, l, _⟩ => hb N list l ())
end
end Go.AM.Ytpjenobkibfpcaa

namespace Go.AM.Ytpjenobkibfpcaa
open Go.AM Go.Proofs
theorem gapN_stop : ∀ (l : List Op), 0 ≤ gapN l ∧ (gapN l < l.length → (l.getD (gapN l).toNat Op.nil).kind ≠ 1 ∧ (l.getD (gapN l).toNat Op.nil).kind ≠ 2)
  | [] => by simp [gapN]
  | o :: r => by
    obtain ⟨h1, h2⟩ := gapN_stop r
    rw [gapN]
    split
    · rename_i hk
      refine ⟨by omega, fun h => ?_⟩
      rw [show (1 + gapN r).toNat = (gapN r).toNat + 1 by omega, List.getD_cons_succ]
      exact h2 (by simp at h; omega)
    · rename_i hk
      refine ⟨by omega, fun _ => ?_⟩
      simp only [Int.toNat_zero, List.getD_cons_zero]
      omega
theorem gapN_le : ∀ (l : List Op), gapN l ≤ l.length
  | [] => by simp [gapN]
  | o :: r => by
    have := gapN_le r
    rw [gapN]
    split <;> simp <;> omega
theorem getD_dropA (l : List Op) (i k : Nat) : (l.drop i).getD k Op.nil = l.getD (i + k) Op.nil := by
  simp [List.getD, List.getElem?_drop]
theorem rightOp_kind {list : Int} {o : Op} {d : Int} (h : rightOp list o d = true) : o.kind = 0 ∨ o.kind = 1 ∨ o.kind = 2 ∨ o.kind = 3 := by
  obtain ⟨k, n, l, e⟩ := o
  show k = 0 ∨ k = 1 ∨ k = 2 ∨ k = 3
  rw [rightOp] at h
  split at h
  · omega
  · split at h
    · cases h
    · omega
theorem b76 : HB76 := by
  intro N list l _ hp hN
  simp only [pre76, mu76] at hp hN
  obtain ⟨p1, p3⟩ := hp
  have hl := massOs_len l
  refine vc76 _ _ _ _ ?_
  refine loop_rule (ι := Int × List Op) (fun s => head76_0 list l s.1 s.2)
    (fun s => 0 ≤ s.1 ∧ s.1 ≤ l.length ∧ (flushW (nrmOs list (l.drop s.1.toNat) ⟨s.2, [], []⟩)).out = (flushW (nrmOs list l ⟨[], [], []⟩)).out ∧ s.2.length ≤ 3 * s.1 ∧ ∀ o ∈ s.2, 0 ≤ o.n ∧ o.n ≤ s.1 * 1048576)
    (fun s => ((l.length : Int) - s.1).toNat) (0, []) rfl ⟨by simp, by simp, by simp, by simp, by simp⟩ ?_
  rintro ⟨i, out⟩ ⟨g1, g2, g3, g4, g6⟩
  dsimp only at g1 g2 g3 g4 g6
  have key : i < l.length → ∀ F, F = (flushW ⟨out, gapT 1 (l.drop i.toNat), gapT 2 (l.drop i.toNat)⟩).out →
      W76_c1 N list l i F (fun s2 => ∃ j : Int × List Op, s2 = head76_0 list l j.1 j.2 ∧ (0 ≤ j.1 ∧ j.1 ≤ l.length ∧ (flushW (nrmOs list (l.drop j.1.toNat) ⟨j.2, [], []⟩)).out = (flushW (nrmOs list l ⟨[], [], []⟩)).out ∧ j.2.length ≤ 3 * j.1 ∧ ∀ o ∈ j.2, 0 ≤ o.n ∧ o.n ≤ j.1 * 1048576) ∧ ((l.length : Int) - j.1).toNat < ((l.length : Int) - i).toNat) (EndsQ cfg Try.f76.ntmps Try.f76.results.toList (res76 (list, l, ())) []) := by
    intro hi F hF
    obtain ⟨q1, q2⟩ := gapN_stop (l.drop i.toNat)
    have q3 := gapN_le (l.drop i.toNat)
    rw [List.length_drop] at q2 q3
    rw [getD_dropA, show i.toNat + (gapN (l.drop i.toNat)).toNat = (i + gapN (l.drop i.toNat)).toNat by omega] at q2
    rw [nrmOs_gap, List.drop_drop, show i.toNat + (gapN (l.drop i.toNat)).toNat = (i + gapN (l.drop i.toNat)).toNat by omega] at g3
    simp only [List.nil_append] at g3
    have hfl := flush_len ⟨out, gapT 1 (l.drop i.toNat), gapT 2 (l.drop i.toNat)⟩
    have hfm := flush_mem ⟨out, gapT 1 (l.drop i.toNat), gapT 2 (l.drop i.toNat)⟩
    have hflush : flushW ⟨out, gapT 1 (l.drop i.toNat), gapT 2 (l.drop i.toNat)⟩ = ⟨F, [], []⟩ := by rw [hF]; rfl
    have hkeep : ∀ n, keepW ⟨out, gapT 1 (l.drop i.toNat), gapT 2 (l.drop i.toNat)⟩ n = ⟨keepO F n, [], []⟩ := by intro n; rw [hF]; rfl
    rw [← hF] at hfl hfm
    simp only at hfl hfm
    refine vc76_c1 _ _ _ _ _ _ _ ?_
    rintro y1 hy1 y2 hy2 y3 hy3 y4 hy4 y5 hy5 y6 hy6
    generalize hj : i + gapN (l.drop i.toNat) = j at *
    have hy : y2 = Edit.nil := hy2
    subst hy
    have hFn : ∀ o ∈ F, 0 ≤ o.n ∧ o.n ≤ i * 1048576 := by
      intro o ho
      rcases hfm o ho with h1 | h1
      · exact g6 o h1
      · omega
    simp only [show ((0 : Int) == 0) = true from rfl, show ((3 : Int) == 0) = false from rfl, cond_true, cond_false]
    (simp only [vcS])
    refine ⟨fun hjl => ?_, fun hjl => ?_⟩
    · rw [List.drop_of_length_le (by omega)] at g3
      simp only [nrmOs, hflush] at g3
      simp only [res76]
      rw [← g3]
      (repeat' (first | exact trivial | exact rfl | apply And.intro))
    · have hmem := mem_getD (l := l) (i := j.toNat) (by omega) Op.nil
      have hm := massOs_mem hmem
      obtain ⟨d, hr2⟩ := p3 _ hmem
      have hq := q2 (by omega)
      rw [← hy1] at hm hr2 hq
      have hkind := rightOp_kind hr2
      rw [dropI (by omega) (by omega) Op.nil, ← hy1, nrmOs, nrmOp_at] at g3
      have hmo := massOp_e y1
      have hlast : (F.length : Int) - 1 = ((F.length - 1 : Nat) : Int) ∨ F.length = 0 := by omega
      have e2 : ((F.length : Int) - 1).toNat = F.length - 1 := by omega
      rw [e2] at hy3 ⊢
      have hk3 : 0 < F.length → 0 ≤ y3.n ∧ y3.n ≤ i * 1048576 := fun h => by
        rw [hy3]; exact hFn _ (mem_getD (by omega) _)
      have keeps : ∀ n : Int, 0 ≤ n ∧ n ≤ 1048576 → (flushW (nrmOs list (l.drop (j + 1).toNat) ⟨keepO F n, [], []⟩)).out = (flushW (nrmOs list l ⟨[], [], []⟩)).out →
          ((0 < F.length ∧ y3.kind = 0 → ∃ q : Int × List Op, head76_0 list l (j + 1) (F.set (F.length - 1) ⟨y3.kind, y3.n + n, y3.l, y5⟩) = head76_0 list l q.1 q.2 ∧ (0 ≤ q.1 ∧ q.1 ≤ l.length ∧ (flushW (nrmOs list (l.drop q.1.toNat) ⟨q.2, [], []⟩)).out = (flushW (nrmOs list l ⟨[], [], []⟩)).out ∧ q.2.length ≤ 3 * q.1 ∧ ∀ o ∈ q.2, 0 ≤ o.n ∧ o.n ≤ q.1 * 1048576) ∧ ((l.length : Int) - q.1).toNat < ((l.length : Int) - i).toNat) ∧
           (¬ (0 < F.length ∧ y3.kind = 0) → ∃ q : Int × List Op, head76_0 list l (j + 1) (F ++ [⟨0, n, [], Edit.nil⟩]) = head76_0 list l q.1 q.2 ∧ (0 ≤ q.1 ∧ q.1 ≤ l.length ∧ (flushW (nrmOs list (l.drop q.1.toNat) ⟨q.2, [], []⟩)).out = (flushW (nrmOs list l ⟨[], [], []⟩)).out ∧ q.2.length ≤ 3 * q.1 ∧ ∀ o ∈ q.2, 0 ≤ o.n ∧ o.n ≤ q.1 * 1048576) ∧ ((l.length : Int) - q.1).toNat < ((l.length : Int) - i).toNat)) := by
        intro n hn hg
        rw [keepO_at, ← hy3, ← hy5] at hg
        refine ⟨fun hc => ?_, fun hc => ?_⟩
        · rw [if_pos ⟨by omega, hc.2⟩] at hg
          refine ⟨(j + 1, _), rfl, ⟨by dsimp only; omega, by dsimp only; omega, hg, by dsimp only; rw [List.length_set]; omega, fun o ho => ?_⟩, by dsimp only; omega⟩
          dsimp only at ho ⊢
          have hk4 := hk3 (by omega)
          rcases List.mem_or_eq_of_mem_set ho with ho | rfl
          · have := hFn o ho; omega
          · simp only; omega
        · rw [if_neg (fun h => hc ⟨by omega, h.2⟩)] at hg
          refine ⟨(j + 1, _), rfl, ⟨by dsimp only; omega, by dsimp only; omega, hg, by dsimp only; rw [List.length_append, List.length_singleton]; omega, fun o ho => ?_⟩, by dsimp only; omega⟩
          dsimp only at ho ⊢
          rcases List.mem_append.1 ho with ho | ho
          · have := hFn o ho; omega
          · simp only [List.mem_singleton] at ho
            subst ho
            simp only; omega
      refine ⟨by omega, by omega, fun hk => ?_, fun hk => ?_⟩
      · rw [if_neg (by omega), if_neg (by omega), if_neg (by omega), if_pos hk] at g3
        rw [← hy4, ← hy6, hkeep, hflush] at g3
        have hre := rightOp_desc hr2 hk
        rw [← hy4] at hre
        have hmE : massE y4 ≤ massOp y1 := by rw [hmo, hy4]; omega
        refine ⟨by omega, by simp only [pre32]; exact ⟨by omega, d, hre⟩, by simp only [mu32]; omega, by simp only [pre1111], fun hq => ?_, fun hq => ?_⟩
        · rw [if_pos hq] at g3
          have hK := keeps 1 (by omega) g3
          refine ⟨by unfold InR; omega, by omega, fun hc => ?_, fun hc => ?_⟩
          · have hk4 := hk3 (by omega)
            exact ⟨by unfold InR; omega, by unfold InR; omega, by omega, by unfold InR; omega, by omega, by omega, by unfold InR; omega, hK.1 ⟨by omega, hc.2⟩⟩
          · exact ⟨by simp only [List.length_singleton]; omega, by unfold InR; omega, hK.2 (fun h => by omega)⟩
        · rw [if_neg (by rw [hq]; simp)] at g3
          refine ⟨fun h => (nomatch h), fun h => (nomatch h), fun h => (nomatch h), fun _ => ⟨by simp only [List.length_singleton]; omega, by unfold InR; omega, (j + 1, F ++ [⟨3, 0, [], y6⟩]), rfl, ⟨by dsimp only; omega, by dsimp only; omega, g3, by dsimp only; rw [List.length_append, List.length_singleton]; omega, fun o ho => ?_⟩, by dsimp only; omega⟩⟩
          dsimp only at ho ⊢
          rcases List.mem_append.1 ho with ho | ho
          · have := hFn o ho; omega
          · simp only [List.mem_singleton] at ho
            subst ho
            simp only; omega
      · have hk0 : y1.kind = 0 := by omega
        rw [if_pos hk0, hkeep] at g3
        have h1 := rightOp_keep hr2 hk0
        have hK := keeps y1.n (by omega) g3
        refine ⟨by unfold InR; omega, by omega, fun hc => ?_, fun hc => ?_⟩
        · have hk4 := hk3 (by omega)
          exact ⟨by unfold InR; omega, by unfold InR; omega, by omega, by unfold InR; omega, by omega, by omega, by unfold InR; omega, hK.1 ⟨by omega, hc.2⟩⟩
        · exact ⟨by simp only [List.length_singleton]; omega, by unfold InR; omega, hK.2 (fun h => by omega)⟩
  refine vc76_l0 _ _ _ _ _ _ _ ?_
  rintro y1 hy1
  have hy : y1 = Edit.nil := hy1
  subst hy
  (simp only [vcS])
  refine ⟨fun hi => ?_, fun hi => ?_⟩
  · have kk := key hi
    simp only [flushW, flushO] at kk
    refine ⟨by simp only [pre110]; omega, by simp only [pre110]; omega, fun h1 => ⟨by simp only [List.length_singleton]; omega, fun h2 => ⟨by simp only [List.length_append, List.length_singleton]; omega, ?_⟩, fun h2 => ?_⟩, fun h1 => ⟨fun h2 => ⟨by simp only [List.length_singleton]; omega, ?_⟩, fun h2 => ?_⟩⟩
    · refine kk _ ?_
      rw [if_neg (by omega), if_neg (by omega)]; simp
    · refine kk _ ?_
      rw [if_neg (by omega), if_pos (by omega)]; simp
    · refine kk _ ?_
      rw [if_pos (by omega), if_neg (by omega)]; simp
    · refine kk _ ?_
      rw [if_pos (by omega), if_pos (by omega)]; simp
  · rw [List.drop_of_length_le (by omega)] at g3
    have : (flushW (nrmOs list [] ⟨out, [], []⟩)).out = out := by simp [nrmOs, flushW, flushO]
    rw [this] at g3
    simp only [res76]
    rw [← g3]
    (repeat' (first | exact trivial | exact rfl | apply And.intro))
theorem right_kind {e : Edit} {d : Int} (h : rightE e d = true) : (e.kind = 0 ∨ e.kind = 1 ∨ e.kind = 2 ∨ e.kind = 3) ∧ (e.kind ≠ 3 → e.list = 0) := by
  obtain ⟨k, o, n, w, ks, l, os⟩ := e
  show (k = 0 ∨ k = 1 ∨ k = 2 ∨ k = 3) ∧ (k ≠ 3 → l = 0)
  rw [rightE] at h
  split at h
  · cases h
  · split at h
    · cases h
    · rename_i h1 h2
      refine ⟨by omega, fun hk => ?_⟩
      apply Classical.byContradiction
      intro hl
      exact h2 (.inr (.inr ⟨hk, .inl hl⟩))
theorem b32 : HB32 := by
  intro N e _ hp hN
  simp only [pre32, mu32] at hp hN
  obtain ⟨p1, d, p3⟩ := hp
  have h1 := len_massE e
  have h2 := massKs_len e.kids
  have h3 := massOs_len e.ops
  have ha := nrmE_at e
  obtain ⟨hkd, hli⟩ := right_kind p3
  refine vc32 _ _ _ ?_
  (simp only [vcS])
  (simp only [Tree.eta, Edit.eta, Tree.kind_mk, Tree.words_mk, Tree.kids_mk])
  refine ⟨fun hk => ⟨by simp only [pre45]; omega, by simp only [pre45]; omega, ?_⟩, fun hk => ⟨fun hk2 => ⟨by simp; omega, ?_⟩, fun hk2 => ⟨fun hk3 => ⟨?_, by simp only [mu76]; omega, ?_⟩, fun hk3 => ?_⟩⟩⟩
  · rw [if_pos hk] at ha
    simp only [res32, ha]
    (repeat' (first | exact trivial | exact rfl | apply And.intro))
    · exact hk.symm
    · exact (hli (by omega)).symm
  · rw [if_neg hk, if_pos hk2] at ha
    refine loop_rule (ι := Int × List Kid) (fun s => head32_0 e s.1 s.2) (fun s => 0 ≤ s.1 ∧ s.1 ≤ e.kids.length ∧ s.2.length = s.1 ∧ s.2 ++ nrmKs (e.kids.drop s.1.toNat) = nrmKs e.kids) (fun s => ((e.kids.length : Int) - s.1).toNat) (0, []) rfl ⟨by simp, by simp, by simp, by simp⟩ ?_
    rintro ⟨j, ks⟩ ⟨f1, f2, f3, f4⟩
    dsimp only at f1 f2 f3 f4
    refine vc32_l0 _ _ _ _ _ _ ?_
    rintro y1 hy1 y2 hy2 y3 hy3
    (simp only [vcS])
    refine ⟨fun hj => ?_, fun hj => ?_⟩
    · have hmem := mem_getD (l := e.kids) (i := j.toNat) (by omega) (KidOf.mk 0 Edit.nil)
      have hm := massKs_mem hmem
      have hr := kid_right p3 hk2 _ hmem
      rw [dropI f1 hj (KidOf.mk 0 Edit.nil)] at f4
      rw [← hy1] at f4 hm hr
      simp only [nrmKs, nrmKid_at] at f4
      rw [← hy2] at f4 hm hr
      rw [← hy3] at f4
      refine ⟨⟨f1, hj⟩, ⟨f1, hj⟩, by simp only [pre32]; exact ⟨by omega, hr⟩, by simp only [mu32]; omega, by simp; omega, by unfold InR; omega, (j + 1, ks ++ [⟨y1.at_, y3⟩]), rfl, ⟨by dsimp only; omega, by dsimp only; omega, by simp; omega, ?_⟩, by dsimp only; omega⟩
      simp only [List.append_assoc, List.cons_append, List.nil_append]
      exact f4
    · rw [List.drop_of_length_le (by omega)] at f4
      simp only [nrmKs, List.append_nil] at f4
      rw [f4]
      simp only [res32, ha]
      (repeat' (first | exact trivial | exact rfl | apply And.intro))
      · exact hk2.symm
      · exact (hli (by omega)).symm
  · simp only [pre76]
    exact ⟨by omega, fun o ho => op_right p3 hk3 o ho⟩
  · rw [if_neg hk, if_neg hk2, if_pos hk3] at ha
    simp only [res32, ha]
    (repeat' (first | exact trivial | exact rfl | apply And.intro))
    exact hk3.symm
  · rw [if_neg hk, if_neg hk2, if_neg hk3] at ha
    simp only [res32, ha]
    (repeat' (first | exact trivial | exact rfl | apply And.intro))
    · show 0 = e.kind
      omega
    · exact (hli hk3).symm
theorem c32_78 : Contract Try.prog cfg 32 spec32 ∧ Contract Try.prog cfg 76 spec76 := make32_78 c45 c110 c1111 b32 b76
end Go.AM.Ytpjenobkibfpcaa

namespace Go.AM.Ytpjenobkibfpcaa
open Go.AM Go.Proofs
theorem ends_eq {n : Nat} {rs : List ResultVar} {r r' : V U} {X : List (List (C U))} {e : AExit} {s : LSt U} (hr : r = r') (h : EndsQ cfg n rs r' X e s) : EndsQ cfg n rs r X e s := by rw [hr]; exact h
end Go.AM.Ytpjenobkibfpcaa

namespace Go.AM
def badAt (list : Int) : List Tree → Int → Int
  | [], _ => -1
  | t :: r, i => if rightT (Tree.mk list [] [t]) 64 = true then badAt list r (i + 1) else i
theorem badAt_iff (list : Int) : ∀ (l : List Tree) (i : Int), 0 ≤ i → (0 ≤ badAt list l i ↔ treesOk list l = false)
  | [], i, _ => by simp [badAt, treesOk]
  | t :: r, i, hi => by
    have ih := badAt_iff list r (i + 1) (by omega)
    rw [badAt, treesOk]
    by_cases h : rightT (Tree.mk list [] [t]) 64 = true
    · rw [if_pos h, h, Bool.true_and]; exact ih
    · rw [if_neg h]
      simp only [Bool.not_eq_true] at h
      rw [h, Bool.false_and]
      exact ⟨fun _ => rfl, fun _ => hi⟩
end Go.AM

namespace Go.AM.Ytpjenobkibfpcaa
open Go.AM Go.Proofs
noncomputable section
def args185 : ArgM (Tree × (Int × Unit) × Unit) := (.cons (aEl .tree) (.obj 0 (.cons (cInt .i64) .nil) .nil))
def pre185 (a : Tree × (Int × Unit) × Unit) : Prop := mass a.1 ≤ 18000000000 ∧ rng a.1 ∧ isI a.2.1.1
noncomputable def res185 (a : Tree × (Int × Unit) × Unit) : V U := .c (.bool (!(rightT (Tree.mk a.2.1.1 [] [a.1]) 64)))
noncomputable def resX185 (a : Tree × (Int × Unit) × Unit) : List (List (C U)) := [[.int .i64 a.2.1.1]]
noncomputable def spec185 : Fs U := fsX args185 (fun a => [pre185 a]) res185 resX185
def args195 : ArgM (List Tree × (Int × Unit) × Unit) := (.cons (aSl .tree) (.clo 185 0 (.cons (cInt .i64) .nil) .nil))
def pre195 (a : List Tree × (Int × Unit) × Unit) : Prop := massK a.1 ≤ 18000000000 ∧ rngK a.1 ∧ isI a.2.1.1
noncomputable def res195 (a : List Tree × (Int × Unit) × Unit) : V U := .c (.int .i64 (badAt a.2.1.1 a.1 0))
noncomputable def resX195 (a : List Tree × (Int × Unit) × Unit) : List (List (C U)) := [[.int .i64 a.2.1.1]]
noncomputable def spec195 : Fs U := fsX args195 (fun a => [pre195 a]) res195 resX195
def args184 : ArgM (List Tree × (Int × Unit) × Unit) := (.cons (aSl .tree) (.clo 185 0 (.cons (cInt .i64) .nil) .nil))
def pre184 (a : List Tree × (Int × Unit) × Unit) : Prop := massK a.1 ≤ 18000000000 ∧ rngK a.1 ∧ isI a.2.1.1
noncomputable def res184 (a : List Tree × (Int × Unit) × Unit) : V U := .c (.bool (!(treesOk a.2.1.1 a.1)))
noncomputable def resX184 (a : List Tree × (Int × Unit) × Unit) : List (List (C U)) := [[.int .i64 a.2.1.1]]
noncomputable def spec184 : Fs U := fsX args184 (fun a => [pre184 a]) res184 resX184
noncomputable def know185 : List (FuncId × Fs U) := [(186, spec186)]
def lv185 : Lives U := fun i => match i with
  | 0 => ([(1, []), (2, [])], [((.loc 2), []), ((.x 0), [])])
  | 1 => ([(3, [])], [((.x 0), [])])
  | _ => ([], [])
abbrev W185 (t : Tree) (list : Int) (Q : AExit → LSt U → Prop) := awp cfg (know know185) (drawOk cfg (know know185)) Try.f185.ntmps lv185 (cd Try.f185 []) (⟨[(0, .agg [.int .i64 (Tree.kind t), .slice (U := U) .u64 (Tree.words t) .unk, .slice (U := U) .tree (Tree.kids t) .unk]), (1, .ptr (.x 0) 0)], [((.x 0), [.int .i64 list])], []⟩ : LSt U) Q
theorem vc185 (t : Tree) (list : Int) (Q : AExit → LSt U → Prop) (h : (pre186 (list, (Tree.mk (Tree.kind t) (Tree.words t) (Tree.kids t)), ())) ∧ (Q .ret (⟨[(3, .c (.bool (!(rightT (Tree.mk list [] [(Tree.mk (Tree.kind t) (Tree.words t) (Tree.kids t))]) 64))))], [((.x 0), [.int .i64 list])], []⟩ : LSt U))) :
    W185 t list Q := by
  have e_ : (W185 t list Q) = (type_of% h) := by kernel_rfl
  exact e_.mpr ⟨h.1, h.2⟩
def Body185 (t : Tree) (list : Int)  : Prop := awp cfg (know (know185)) (drawOk cfg (know (know185))) Try.f185.ntmps lv185 (cd Try.f185 []) (entry (args185.can (t, (list, ()), ())) (args185.canX (t, (list, ()), ()))) (EndsQ cfg Try.f185.ntmps Try.f185.results.toList (res185 (t, (list, ()), ())) (resX185 (t, (list, ()), ())))
theorem make185 (c186 : Contract Try.prog cfg 186 spec186) (hb : ∀ (t : Tree) (list : Int) (_ : Unit), pre185 (t, (list, ()), ()) → Body185 t list) : Contract Try.prog cfg 185 spec185 :=
  contractX_flat (l := [(186, spec186)]) cfgOk rfl (⟨c186, trivial⟩) lv185 Try.func185 rfl rfl 2 (fun _ => rfl) (by decide) (fun ⟨t, ⟨list, _⟩, _⟩ => hb t list ())
noncomputable def know195 : List (FuncId × Fs U) := [(185, spec185)]
def lv195 : Lives U := fun i => match i with
  | 0 => ([(0, []), (1, [])], [((.x 0), [])])
  | 1 => ([(0, []), (1, []), (7, []), (8, [])], [((.x 0), [])])
  | 2 => ([(0, []), (1, []), (7, []), (8, []), (9, [])], [((.x 0), [])])
  | 3 => ([(0, []), (1, []), (5, []), (7, []), (8, [])], [((.x 0), [])])
  | 4 => ([(0, []), (1, []), (5, []), (7, []), (8, []), (16, [])], [((.x 0), [])])
  | 5 => ([(4, [])], [((.x 0), [])])
  | 6 => ([(0, []), (1, []), (7, []), (8, [])], [((.x 0), [])])
  | 7 => ([(4, [])], [((.x 0), [])])
  | _ => ([], [])
def head195_0 (l : List Tree) (list : Int) (x8 : Int) : LSt U := (⟨[(0, .c (.slice (U := U) .tree l .unk)), (1, .clo 185 [(.x 0)]), (7, .c (.int .i64 (l.length : Int))), (8, .c (.int .i64 x8))], [((.x 0), [.int .i64 list])], []⟩ : LSt U)
abbrev W195 (l : List Tree) (list : Int) (Q : AExit → LSt U → Prop) := awp cfg (know know195) (drawOk cfg (know know195)) Try.f195.ntmps lv195 (cd Try.f195 []) (⟨[(0, .c (.slice (U := U) .tree l .unk)), (1, .clo 185 [(.x 0)])], [((.x 0), [.int .i64 list])], []⟩ : LSt U) Q
abbrev a195_KG20y := awp cfg (know know195) (drawOk cfg (know know195)) Try.f195.ntmps lv195
abbrev s195_KG20y := seqK cfg (know know195) (drawOk cfg (know know195)) Try.f195.ntmps lv195
theorem vc195 (l : List Tree) (list : Int) (Q : AExit → LSt U → Prop) (h : LoopWp (awp cfg (know know195) (drawOk cfg (know know195)) Try.f195.ntmps lv195 (cd Try.f195 [1, 0, 1, 0, 0])) (head195_0 l list 0) (AExit.inBlock 0 (seqK cfg (know know195) (drawOk cfg (know know195)) Try.f195.ntmps lv195 (cd Try.f195 [1, 1]) Q))) :
    W195 l list Q := by
  have e_ : (W195 l list Q) = (((LoopWp (a195_KG20y (cd Try.f195 [1, 0, 1, 0, 0])) (head195_0 l list 0) (AExit.inBlock 0 (s195_KG20y (cd Try.f195 [1, 1]) Q))))) := by kernel_rfl
  exact e_.mpr h
abbrev W195_l0 (l : List Tree) (list : Int) (x8 : Int) (N0 : LSt U → Prop) (Q : AExit → LSt U → Prop) := awp cfg (know know195) (drawOk cfg (know know195)) Try.f195.ntmps lv195 (cd Try.f195 [1, 0, 1, 0, 0]) (head195_0 l list x8) (AExit.then N0 (AExit.inBlock 0 (seqK cfg (know know195) (drawOk cfg (know know195)) Try.f195.ntmps lv195 (cd Try.f195 [1, 1]) Q)))
theorem vc195_l0 (l : List Tree) (list : Int) (x8 : Int) (N0 : LSt U → Prop) (Q : AExit → LSt U → Prop) (h : ((decide ((x8 : Int) < (l.length : Int))) = true → ((0 : Int) ≤ x8 ∧ x8 < (l.length : Int)) ∧ (pre185 ((Tree.mk (Tree.kind (List.getD l (Int.toNat x8) Tree.nil)) (Tree.words (List.getD l (Int.toNat x8) Tree.nil)) (Tree.kids (List.getD l (Int.toNat x8) Tree.nil))), (list, ()), ())) ∧ (((!(rightT (Tree.mk list [] [(Tree.mk (Tree.kind (List.getD l (Int.toNat x8) Tree.nil)) (Tree.words (List.getD l (Int.toNat x8) Tree.nil)) (Tree.kids (List.getD l (Int.toNat x8) Tree.nil)))]) 64)) = true → Q .ret (⟨[(4, .c (.int .i64 x8))], [((.x 0), [.int .i64 list])], []⟩ : LSt U)) ∧ ((!(rightT (Tree.mk list [] [(Tree.mk (Tree.kind (List.getD l (Int.toNat x8) Tree.nil)) (Tree.words (List.getD l (Int.toNat x8) Tree.nil)) (Tree.kids (List.getD l (Int.toNat x8) Tree.nil)))]) 64)) = false → (InR ((x8 : Int) + 1)) ∧ (N0 (head195_0 l list ((x8 : Int) + 1)))))) ∧ ((decide ((x8 : Int) < (l.length : Int))) = false → Q .ret (⟨[(4, .c (.int .i64 (-1)))], [((.x 0), [.int .i64 list])], []⟩ : LSt U))) :
    W195_l0 l list x8 N0 Q := by
  have e_ : (W195_l0 l list x8 N0 Q) = (let zz0 := (!(rightT (Tree.mk list [] [(Tree.mk (Tree.kind (List.getD l (Int.toNat x8) Tree.nil)) (Tree.words (List.getD l (Int.toNat x8) Tree.nil)) (Tree.kids (List.getD l (Int.toNat x8) Tree.nil)))]) 64)); (((decide ((x8 : Int) < (l.length : Int))) = true → (((0 : Int) ≤ x8 ∧ x8 < (l.length : Int)) ∧ (pre185 ((Tree.mk (Tree.kind (List.getD l (Int.toNat x8) Tree.nil)) (Tree.words (List.getD l (Int.toNat x8) Tree.nil)) (Tree.kids (List.getD l (Int.toNat x8) Tree.nil))), (list, ()), ())) ∧ ((zz0 = true → (Q .ret (⟨[(4, .c (.int .i64 x8))], [((.x 0), [.int .i64 list])], []⟩ : LSt U))) ∧ (zz0 = false → (InR ((x8 : Int) + 1)) ∧ (N0 (head195_0 l list ((x8 : Int) + 1))))))) ∧ ((decide ((x8 : Int) < (l.length : Int))) = false → (Q .ret (⟨[(4, .c (.int .i64 (-1)))], [((.x 0), [.int .i64 list])], []⟩ : LSt U))))) := by kernel_rfl
  exact e_.mpr ⟨fun c_1 => ⟨(h.1 c_1).1, (h.1 c_1).2.1, ⟨fun c_2 => ((h.1 c_1).2.2.1 c_2), fun c_2 => ⟨((h.1 c_1).2.2.2 c_2).1, ((h.1 c_1).2.2.2 c_2).2⟩⟩⟩, fun c_1 => (h.2 c_1)⟩
def Body195 (l : List Tree) (list : Int)  : Prop := awp cfg (know (know195)) (drawOk cfg (know (know195))) Try.f195.ntmps lv195 (cd Try.f195 []) (entry (args195.can (l, (list, ()), ())) (args195.canX (l, (list, ()), ()))) (EndsQ cfg Try.f195.ntmps Try.f195.results.toList (res195 (l, (list, ()), ())) (resX195 (l, (list, ()), ())))
theorem make195 (c185 : Contract Try.prog cfg 185 spec185) (hb : ∀ (l : List Tree) (list : Int) (_ : Unit), pre195 (l, (list, ()), ()) → Body195 l list) : Contract Try.prog cfg 195 spec195 :=
  contractX_flat (l := [(185, spec185)]) cfgOk rfl (⟨c185, trivial⟩) lv195 Try.func195 rfl rfl 2 (fun _ => rfl) (by decide) (fun ⟨l, ⟨list, _⟩, _⟩ => hb l list ())
noncomputable def know184 : List (FuncId × Fs U) := [(195, spec195)]
def lv184 : Lives U := fun i => match i with
  | 0 => ([(0, []), (1, [])], [((.x 0), [])])
  | 1 => ([(4, [])], [((.x 0), [])])
  | _ => ([], [])
abbrev W184 (l : List Tree) (list : Int) (Q : AExit → LSt U → Prop) := awp cfg (know know184) (drawOk cfg (know know184)) Try.f184.ntmps lv184 (cd Try.f184 []) (⟨[(0, .c (.slice (U := U) .tree l .unk)), (1, .clo 185 [(.x 0)])], [((.x 0), [.int .i64 list])], []⟩ : LSt U) Q
theorem vc184 (l : List Tree) (list : Int) (Q : AExit → LSt U → Prop) (h : (pre195 (l, (list, ()), ())) ∧ (Q .ret (⟨[(4, .c (.bool (decide ((0 : Int) ≤ (badAt list l 0)))))], [((.x 0), [.int .i64 list])], []⟩ : LSt U))) :
    W184 l list Q := by
  have e_ : (W184 l list Q) = (type_of% h) := by kernel_rfl
  exact e_.mpr ⟨h.1, h.2⟩
def Body184 (l : List Tree) (list : Int)  : Prop := awp cfg (know (know184)) (drawOk cfg (know (know184))) Try.f184.ntmps lv184 (cd Try.f184 []) (entry (args184.can (l, (list, ()), ())) (args184.canX (l, (list, ()), ()))) (EndsQ cfg Try.f184.ntmps Try.f184.results.toList (res184 (l, (list, ()), ())) (resX184 (l, (list, ()), ())))
theorem make184 (c195 : Contract Try.prog cfg 195 spec195) (hb : ∀ (l : List Tree) (list : Int) (_ : Unit), pre184 (l, (list, ()), ()) → Body184 l list) : Contract Try.prog cfg 184 spec184 :=
  contractX_flat (l := [(195, spec195)]) cfgOk rfl (⟨c195, trivial⟩) lv184 Try.func184 rfl rfl 2 (fun _ => rfl) (by decide) (fun ⟨l, ⟨list, _⟩, _⟩ => hb l list ())
end
end Go.AM.Ytpjenobkibfpcaa

namespace Go.AM.Ytpjenobkibfpcaa
open Go.AM Go.Proofs
theorem c185 : Contract Try.prog cfg 185 spec185 := by
  refine make185 c186 ?_
  intro t list _ hp
  simp only [pre185] at hp
  refine vc185 _ _ _ ?_
  (simp only [Tree.eta, Edit.eta, Tree.kind_mk, Tree.words_mk, Tree.kids_mk])
  refine ⟨by simp only [pre186]; exact hp, ?_⟩
  simp only [res185, resX185]
  (repeat' (first | exact trivial | exact rfl | apply And.intro))
theorem badAt_drop {list : Int} {l : List Tree} : ∀ (i : Nat), (∀ t ∈ l.take i, rightT (Tree.mk list [] [t]) 64 = true) → i ≤ l.length → badAt list l 0 = badAt list (l.drop i) i
  | 0, _, _ => by simp
  | i + 1, h, hi => by
    have ih := badAt_drop i (fun t ht => h t (by rw [List.take_add_one]; exact List.mem_append.2 (Or.inl ht))) (by omega)
    rw [ih]
    have e : l.drop i = l.getD i Tree.nil :: l.drop (i + 1) := by
      have := dropI (l := l) (i := (i : Int)) (by omega) (by omega) Tree.nil
      simpa using this
    have hm : l.getD i Tree.nil ∈ l.take (i + 1) := by
      rw [List.mem_take_iff_getElem]
      exact ⟨i, by omega, by simp [List.getD, List.getElem?_eq_getElem (show i < l.length by omega)]⟩
    rw [e, badAt, if_pos (h _ hm)]
    simp
theorem c195 : Contract Try.prog cfg 195 spec195 := by
  refine make195 c185 ?_
  intro l list _ hp
  simp only [pre195] at hp
  refine vc195 _ _ _ ?_
  refine loop_rule (ι := Int) (fun s => head195_0 l list s) (fun s => 0 ≤ s ∧ s ≤ l.length ∧ ∀ t ∈ l.take s.toNat, rightT (Tree.mk list [] [t]) 64 = true) (fun s => ((l.length : Int) - s).toNat) 0 rfl ⟨by simp, by simp, by simp⟩ ?_
  rintro i ⟨g1, g2, g3⟩
  have hb := badAt_drop (list := list) (l := l) i.toNat g3 (by omega)
  have hl := massK_len l
  refine vc195_l0 _ _ _ _ _ ?_
  (simp only [vcS])
  (simp only [Tree.eta, Edit.eta, Tree.kind_mk, Tree.words_mk, Tree.kids_mk])
  refine ⟨fun hi => ⟨⟨g1, hi⟩, ?_, fun hc => ?_, fun hc => ?_⟩, fun hi => ?_⟩
  · have hm := mem_getD (l := l) (i := i.toNat) (by omega) Tree.nil
    simp only [pre185]
    have h1 := massK_mem hm
    exact ⟨by omega, rngK_mem hp.2.1 hm, hp.2.2⟩
  · rw [dropI g1 hi Tree.nil, badAt, if_neg (by rw [hc]; decide)] at hb
    simp only [res195, resX195]
    rw [hb, show ((i.toNat : Nat) : Int) = i by omega]
    (repeat' (first | exact trivial | exact rfl | apply And.intro))
  · refine ⟨by unfold InR; omega, i + 1, rfl, ⟨by omega, by omega, fun t ht => ?_⟩, by omega⟩
    rw [show (i + 1).toNat = i.toNat + 1 by omega, List.take_add_one] at ht
    rcases List.mem_append.1 ht with ht | ht
    · exact g3 t ht
    · have e : l[i.toNat]? = some (l.getD i.toNat Tree.nil) := by
        simp [List.getD, List.getElem?_eq_getElem (show i.toNat < l.length by omega)]
      rw [e] at ht
      simp only [Option.toList_some, List.mem_singleton] at ht
      subst ht
      exact hc
  · rw [List.drop_of_length_le (by omega)] at hb
    simp only [res195, resX195]
    rw [hb, badAt]
    (repeat' (first | exact trivial | exact rfl | apply And.intro))
theorem c184 : Contract Try.prog cfg 184 spec184 := by
  refine make184 c195 ?_
  intro l list _ hp
  simp only [pre184] at hp
  refine vc184 _ _ _ ?_
  have hb := badAt_iff list l 0 (by decide)
  refine ⟨by simp only [pre195]; exact hp, ?_⟩
  have e : decide (0 ≤ badAt list l 0) = !(treesOk list l) := by
    rw [Bool.eq_iff_iff, decide_eq_true_eq, hb]
    cases treesOk list l <;> simp
  simp only [res184, resX184]
  rw [e]
  (repeat' (first | exact trivial | exact rfl | apply And.intro))
end Go.AM.Ytpjenobkibfpcaa
