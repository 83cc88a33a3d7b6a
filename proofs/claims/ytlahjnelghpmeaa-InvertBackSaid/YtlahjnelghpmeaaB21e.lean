import Derived.Test.YtlahjnelghpmeaaB22c
import Derived.Test.YtlahjnelghpmeaaL21
import Derived.Test.YtlahjnelghpmeaaB20c
import Derived.Test.YtlahjnelghpmeaaL22r
set_option linter.unusedSimpArgs false
set_option linter.unusedVariables false
namespace Go.AM.Ytlahjnelghpmeaa
open Go.AM Go.Proofs
noncomputable section
def args40 : ArgL (Edit × Unit) := (.cons (aEl .edit) .nil)
def pre40 (a : Edit × Unit) : Prop := massE a.1 ≤ 1000000 ∧ ∃ d, rightE a.1 d = true
def mu40 (a : Edit × Unit) : Nat := 2 * massE a.1
noncomputable def res40 (a : Edit × Unit) : V U := .agg [.int .i64 (Edit.kind (nrmE a.1)), .int .i64 (Tree.kind (Edit.old (nrmE a.1))), .slice (U := U) .u64 (Tree.words (Edit.old (nrmE a.1))) .unk, .slice (U := U) .tree (Tree.kids (Edit.old (nrmE a.1))) .unk, .int .i64 (Tree.kind (Edit.new (nrmE a.1))), .slice (U := U) .u64 (Tree.words (Edit.new (nrmE a.1))) .unk, .slice (U := U) .tree (Tree.kids (Edit.new (nrmE a.1))) .unk, .slice (U := U) .wedit (Edit.words (nrmE a.1)) .unk, .slice (U := U) .kid (Edit.kids (nrmE a.1)) .unk, .int .i64 (Edit.list (nrmE a.1)), .slice (U := U) .op (Edit.ops (nrmE a.1)) .unk]
noncomputable def spec40 : Fs U := fs args40 (fun a => [pre40 a]) res40
def args76 : ArgL (Int × List Op × Unit) := (.cons (aInt .i64) (.cons (aSl .op) .nil))
def pre76 (a : Int × List Op × Unit) : Prop := massOs a.2.1 ≤ 1000000 ∧ ∀ o ∈ a.2.1, ∃ d, rightOp a.1 o d = true
def mu76 (a : Int × List Op × Unit) : Nat := 2 * massOs a.2.1 + 1
noncomputable def res76 (a : Int × List Op × Unit) : V U := .c (.slice (U := U) .op ((flushW (nrmOs a.1 a.2.1 (Wst.mk [] [] []))).out) .unk)
noncomputable def spec76 : Fs U := fs args76 (fun a => [pre76 a]) res76
noncomputable def know40 (N : Nat) : List (FuncId × Fs U) := (40, fs args40 (fun a => [pre40 a, mu40 a < N]) res40) :: (76, fs args76 (fun a => [pre76 a, mu76 a < N]) res76) :: [(32, spec32), (42, spec1042), (105, spec105), (107, spec107), (106, spec2106)]
def lv40 : Lives U := fun i => match i with
  | 0 => ([(1, []), (2, [])], [((.loc 1), []), ((.loc 2), [])])
  | 1 => ([(1, []), (2, []), (3, [])], [((.loc 1), []), ((.loc 2), []), ((.loc 3), [])])
  | 2 => ([(1, []), (2, []), (3, []), (12, [])], [((.loc 1), []), ((.loc 2), []), ((.loc 3), [])])
  | 3 => ([(1, []), (2, []), (3, []), (12, []), (13, [])], [((.loc 1), []), ((.loc 2), []), ((.loc 3), [])])
  | 4 => ([(2, []), (3, [])], [((.loc 2), []), ((.loc 3), [])])
  | 5 => ([(1, []), (2, []), (3, []), (12, []), (23, [])], [((.loc 1), []), ((.loc 2), []), ((.loc 3), [])])
  | 6 => ([(1, []), (2, []), (3, [])], [((.loc 1), []), ((.loc 2), []), ((.loc 3), [])])
  | 7 => ([(2, []), (3, []), (32, []), (33, []), (34, [])], [((.loc 2), []), ((.loc 3), [.any, .any, .any, .any, .any, .any, .any, .any, .own .kid])])
  | 8 => ([(2, []), (3, []), (32, []), (33, []), (34, []), (35, [])], [((.loc 2), []), ((.loc 3), [])])
  | 9 => ([(2, []), (3, []), (5, []), (32, []), (33, []), (34, [])], [((.loc 2), []), ((.loc 3), []), ((.loc 5), [])])
  | 10 => ([(2, []), (3, []), (32, []), (33, []), (34, [])], [((.loc 2), []), ((.loc 3), [])])
  | 11 => ([(2, []), (3, []), (32, []), (33, []), (34, [])], [((.loc 2), []), ((.loc 3), [.any, .any, .any, .any, .any, .any, .any, .any, .own .kid])])
  | 12 => ([(1, []), (2, []), (3, []), (50, [])], [((.loc 1), []), ((.loc 2), []), ((.loc 3), [])])
  | 13 => ([(2, []), (3, [])], [((.loc 2), []), ((.loc 3), [])])
  | 14 => ([(2, [])], [((.loc 2), [])])
  | _ => ([], [])
def head40_0 (e : Edit) (x34 : Int) (ml3_8 : List Kid) : LSt U := (⟨[(2, .ptr (.loc 2) 0), (3, .ptr (.loc 3) 0), (32, .c (.slice (U := U) .kid (Edit.kids e) .unk)), (33, .c (.int .i64 ((Edit.kids e).length : Int))), (34, .c (.int .i64 x34))], [((.loc 2), [.int .i64 0, .int .i64 0, .nils, .nils, .int .i64 0, .nils, .nils, .nils, .nils, .int .i64 0, .nils]), ((.loc 3), [.int .i64 (Edit.kind e), .int .i64 0, .nils, .nils, .int .i64 0, .nils, .nils, .slice (U := U) .wedit (([] : List WEdit) ++ (Edit.words e)) (.own (.l 3 7)), .slice (U := U) .kid ml3_8 (.own (.l 3 8)), .int .i64 (Edit.list e), .nils])], []⟩ : LSt U)
abbrev W40 (N : Nat) (e : Edit) (Q : AExit → LSt U → Prop) := awp cfg (know (know40 N)) (drawOk cfg (know (know40 N))) Try.f40.ntmps lv40 (cd Try.f40 []) (⟨[(0, .agg [.int .i64 (Edit.kind e), .int .i64 (Tree.kind (Edit.old e)), .slice (U := U) .u64 (Tree.words (Edit.old e)) .unk, .slice (U := U) .tree (Tree.kids (Edit.old e)) .unk, .int .i64 (Tree.kind (Edit.new e)), .slice (U := U) .u64 (Tree.words (Edit.new e)) .unk, .slice (U := U) .tree (Tree.kids (Edit.new e)) .unk, .slice (U := U) .wedit (Edit.words e) .unk, .slice (U := U) .kid (Edit.kids e) .unk, .int .i64 (Edit.list e), .slice (U := U) .op (Edit.ops e) .unk])], [], []⟩ : LSt U) Q
abbrev a40_G22d (N : Nat) := awp cfg (know (know40 N)) (drawOk cfg (know (know40 N))) Try.f40.ntmps lv40
abbrev s40_G22d (N : Nat) := seqK cfg (know (know40 N)) (drawOk cfg (know (know40 N))) Try.f40.ntmps lv40
theorem vc40 (N : Nat) (e : Edit) (Q : AExit → LSt U → Prop) (h : ((((Edit.kind e) : Int) == 1) = true → (pre32 ((Tree.mk (Tree.kind (Edit.old e)) (Tree.words (Edit.old e)) (Tree.kids (Edit.old e))), ())) ∧ (pre32 ((Tree.mk (Tree.kind (Edit.new e)) (Tree.words (Edit.new e)) (Tree.kids (Edit.new e))), ())) ∧ (Q .ret (⟨[(2, .ptr (.loc 2) 0)], [((.loc 2), [.int .i64 (Edit.kind e), .int .i64 (Tree.kind (normT (Tree.mk (Tree.kind (Edit.old e)) (Tree.words (Edit.old e)) (Tree.kids (Edit.old e))))), .slice (U := U) .u64 (Tree.words (normT (Tree.mk (Tree.kind (Edit.old e)) (Tree.words (Edit.old e)) (Tree.kids (Edit.old e))))) .unk, .slice (U := U) .tree (Tree.kids (normT (Tree.mk (Tree.kind (Edit.old e)) (Tree.words (Edit.old e)) (Tree.kids (Edit.old e))))) .unk, .int .i64 (Tree.kind (normT (Tree.mk (Tree.kind (Edit.new e)) (Tree.words (Edit.new e)) (Tree.kids (Edit.new e))))), .slice (U := U) .u64 (Tree.words (normT (Tree.mk (Tree.kind (Edit.new e)) (Tree.words (Edit.new e)) (Tree.kids (Edit.new e))))) .unk, .slice (U := U) .tree (Tree.kids (normT (Tree.mk (Tree.kind (Edit.new e)) (Tree.words (Edit.new e)) (Tree.kids (Edit.new e))))) .unk, .nils, .nils, .int .i64 (Edit.list e), .nils])], []⟩ : LSt U))) ∧ ((((Edit.kind e) : Int) == 1) = false → ((((Edit.kind e) : Int) == 2) = true → ((([] : List WEdit).length + (Edit.words e).length) * 32 ≤ 140737488355328) ∧ (LoopWp (awp cfg (know (know40 N)) (drawOk cfg (know (know40 N))) Try.f40.ntmps lv40 (cd Try.f40 [1, 1, 0, 1, 0, 1, 1, 1, 0, 1, 1, 0, 0])) (head40_0 e 0 ([])) (AExit.inBlock 1 (AExit.inBlock 0 (seqK cfg (know (know40 N)) (drawOk cfg (know (know40 N))) Try.f40.ntmps lv40 (cd Try.f40 [1, 1, 1]) Q))))) ∧ ((((Edit.kind e) : Int) == 2) = false → ((((Edit.kind e) : Int) == 3) = true → (pre76 ((Edit.list e), (Edit.ops e), ())) ∧ (mu76 ((Edit.list e), (Edit.ops e), ()) < N) ∧ (Q .ret (⟨[(2, .ptr (.loc 2) 0)], [((.loc 2), [.int .i64 (Edit.kind e), .int .i64 0, .nils, .nils, .int .i64 0, .nils, .nils, .nils, .nils, .int .i64 (Edit.list e), .slice (U := U) .op ((flushW (nrmOs (Edit.list e) (Edit.ops e) (Wst.mk [] [] []))).out) .unk])], []⟩ : LSt U))) ∧ ((((Edit.kind e) : Int) == 3) = false → Q .ret (⟨[(2, .ptr (.loc 2) 0)], [((.loc 2), [.int .i64 (Edit.kind e), .int .i64 0, .nils, .nils, .int .i64 0, .nils, .nils, .nils, .nils, .int .i64 (Edit.list e), .nils])], []⟩ : LSt U))))) :
    W40 N e Q := by
  have e_ : (W40 N e Q) = ((((((((Edit.kind e) == 1) = true → (pre32 ((Tree.mk (Tree.kind (Edit.old e)) (Tree.words (Edit.old e)) (Tree.kids (Edit.old e))), ())) ∧ (pre32 ((Tree.mk (Tree.kind (Edit.new e)) (Tree.words (Edit.new e)) (Tree.kids (Edit.new e))), ())) ∧ ((Q .ret (⟨[(2, .ptr (.loc 2) 0)], [((.loc 2), [.int .i64 (Edit.kind e), .int .i64 (Tree.kind (normT (Tree.mk (Tree.kind (Edit.old e)) (Tree.words (Edit.old e)) (Tree.kids (Edit.old e))))), .slice (U := U) .u64 (Tree.words (normT (Tree.mk (Tree.kind (Edit.old e)) (Tree.words (Edit.old e)) (Tree.kids (Edit.old e))))) .unk, .slice (U := U) .tree (Tree.kids (normT (Tree.mk (Tree.kind (Edit.old e)) (Tree.words (Edit.old e)) (Tree.kids (Edit.old e))))) .unk, .int .i64 (Tree.kind (normT (Tree.mk (Tree.kind (Edit.new e)) (Tree.words (Edit.new e)) (Tree.kids (Edit.new e))))), .slice (U := U) .u64 (Tree.words (normT (Tree.mk (Tree.kind (Edit.new e)) (Tree.words (Edit.new e)) (Tree.kids (Edit.new e))))) .unk, .slice (U := U) .tree (Tree.kids (normT (Tree.mk (Tree.kind (Edit.new e)) (Tree.words (Edit.new e)) (Tree.kids (Edit.new e))))) .unk, .nils, .nils, .int .i64 (Edit.list e), .nils])], []⟩ : LSt U)))) ∧ (((Edit.kind e) == 1) = false → ((((Edit.kind e) == 2) = true → ((([] : List WEdit).length + (Edit.words e).length) * 32 ≤ 140737488355328) ∧ ((LoopWp (a40_G22d N (cd Try.f40 [1, 1, 0, 1, 0, 1, 1, 1, 0, 1, 1, 0, 0])) (head40_0 e 0 ([])) (AExit.inBlock 1 (AExit.inBlock 0 (s40_G22d N (cd Try.f40 [1, 1, 1]) Q)))))) ∧ (((Edit.kind e) == 2) = false → ((((Edit.kind e) == 3) = true → (pre76 ((Edit.list e), (Edit.ops e), ())) ∧ (mu76 ((Edit.list e), (Edit.ops e), ()) < N) ∧ ((Q .ret (⟨[(2, .ptr (.loc 2) 0)], [((.loc 2), [.int .i64 (Edit.kind e), .int .i64 0, .nils, .nils, .int .i64 0, .nils, .nils, .nils, .nils, .int .i64 (Edit.list e), .slice (U := U) .op ((flushW (nrmOs (Edit.list e) (Edit.ops e) (Wst.mk [] [] []))).out) .unk])], []⟩ : LSt U)))) ∧ (((Edit.kind e) == 3) = false → (Q .ret (⟨[(2, .ptr (.loc 2) 0)], [((.loc 2), [.int .i64 (Edit.kind e), .int .i64 0, .nils, .nils, .int .i64 0, .nils, .nils, .nils, .nils, .int .i64 (Edit.list e), .nils])], []⟩ : LSt U)))))))))))) := by kernel_rfl
  exact e_.mpr ⟨fun c_1 => ⟨(h.1 c_1).1, (h.1 c_1).2.1, (h.1 c_1).2.2⟩, fun c_1 => ⟨fun c_2 => ⟨((h.2 c_1).1 c_2).1, ((h.2 c_1).1 c_2).2⟩, fun c_2 => ⟨fun c_3 => ⟨(((h.2 c_1).2 c_2).1 c_3).1, (((h.2 c_1).2 c_2).1 c_3).2.1, (((h.2 c_1).2 c_2).1 c_3).2.2⟩, fun c_3 => (((h.2 c_1).2 c_2).2 c_3)⟩⟩⟩
abbrev W40_l0 (N : Nat) (e : Edit) (x34 : Int) (ml3_8 : List Kid) (N0 : LSt U → Prop) (Q : AExit → LSt U → Prop) := awp cfg (know (know40 N)) (drawOk cfg (know (know40 N))) Try.f40.ntmps lv40 (cd Try.f40 [1, 1, 0, 1, 0, 1, 1, 1, 0, 1, 1, 0, 0]) (head40_0 e x34 ml3_8) (AExit.then N0 (AExit.inBlock 1 (AExit.inBlock 0 (seqK cfg (know (know40 N)) (drawOk cfg (know (know40 N))) Try.f40.ntmps lv40 (cd Try.f40 [1, 1, 1]) Q))))
theorem vc40_l0 (N : Nat) (e : Edit) (x34 : Int) (ml3_8 : List Kid) (N0 : LSt U → Prop) (Q : AExit → LSt U → Prop) (h : ∀ y_1, y_1 = (List.getD (Edit.kids e) (Int.toNat x34) (KidOf.mk 0 Edit.nil)) → ∀ y_2, y_2 = ((KidOf.e y_1)) → ∀ y_3, y_3 = ((nrmE y_2)) → ((decide ((x34 : Int) < ((Edit.kids e).length : Int))) = true → ((0 : Int) ≤ x34 ∧ x34 < ((Edit.kids e).length : Int)) ∧ ((pre40 (y_2, ())) ∧ (mu40 (y_2, ()) < N) ∧ ((ml3_8.length + ([(KidOf.mk (KidOf.at_ y_1) y_3 : Kid)]).length) * 208 ≤ 140737488355328) ∧ ((InR ((x34 : Int) + 1)) ∧ (N0 (head40_0 e ((x34 : Int) + 1) (ml3_8 ++ ([(KidOf.mk (KidOf.at_ y_1) y_3 : Kid)]))))))) ∧ ((decide ((x34 : Int) < ((Edit.kids e).length : Int))) = false → Q .ret (⟨[(2, .ptr (.loc 2) 0)], [((.loc 2), [.int .i64 (Edit.kind e), .int .i64 0, .nils, .nils, .int .i64 0, .nils, .nils, .slice (U := U) .wedit (([] : List WEdit) ++ (Edit.words e)) (.own (.l 2 7)), .slice (U := U) .kid ml3_8 (.own (.l 2 8)), .int .i64 (Edit.list e), .nils])], []⟩ : LSt U))) :
    W40_l0 N e x34 ml3_8 N0 Q := by
  have e_ : (W40_l0 N e x34 ml3_8 N0 Q) = (let y_1 := (List.getD (Edit.kids e) (Int.toNat x34) (KidOf.mk 0 Edit.nil)); let y_2 := (reEdit (KidOf.e y_1)); let y_3 := (reEdit (nrmE y_2)); (((decide ((x34 : Int) < ((Edit.kids e).length : Int))) = true → ((0 : Int) ≤ x34 ∧ x34 < ((Edit.kids e).length : Int)) ∧ ((pre40 (y_2, ())) ∧ (mu40 (y_2, ()) < N) ∧ ((ml3_8.length + ([(KidOf.mk (KidOf.at_ y_1) y_3 : Kid)]).length) * 208 ≤ 140737488355328) ∧ ((InR ((x34 : Int) + 1)) ∧ (N0 (head40_0 e ((x34 : Int) + 1) (ml3_8 ++ ([(KidOf.mk (KidOf.at_ y_1) y_3 : Kid)]))))))) ∧ ((decide ((x34 : Int) < ((Edit.kids e).length : Int))) = false → (Q .ret (⟨[(2, .ptr (.loc 2) 0)], [((.loc 2), [.int .i64 (Edit.kind e), .int .i64 0, .nils, .nils, .int .i64 0, .nils, .nils, .slice (U := U) .wedit (([] : List WEdit) ++ (Edit.words e)) (.own (.l 2 7)), .slice (U := U) .kid ml3_8 (.own (.l 2 8)), .int .i64 (Edit.list e), .nils])], []⟩ : LSt U))))) := by kernel_rfl
  exact e_.mpr (by intro y_1 y_2 y_3; have hh := h y_1 rfl y_2 (reEdit_eq _) y_3 (reEdit_eq _); exact ⟨fun c_4 => ⟨(hh.1 c_4).1, ⟨(hh.1 c_4).2.1, (hh.1 c_4).2.2.1, (hh.1 c_4).2.2.2.1, ⟨(hh.1 c_4).2.2.2.2.1, (hh.1 c_4).2.2.2.2.2⟩⟩⟩, fun c_4 => (hh.2 c_4)⟩)
def Body40 (N : Nat) (e : Edit)  : Prop := awp cfg (know (know40 N)) (drawOk cfg (know (know40 N))) Try.f40.ntmps lv40 (cd Try.f40 []) (entry (args40.can (e, ())) []) (EndsQ cfg Try.f40.ntmps Try.f40.results.toList (res40 (e, ())) [])
abbrev HB40 : Prop := ∀ (N : Nat) (e : Edit) (_ : Unit), pre40 (e, ()) → mu40 (e, ()) < N + 1 → Body40 N e
noncomputable def know76 (N : Nat) : List (FuncId × Fs U) := (40, fs args40 (fun a => [pre40 a, mu40 a < N]) res40) :: (76, fs args76 (fun a => [pre76 a, mu76 a < N]) res76) :: [(32, spec32), (42, spec1042), (105, spec105), (107, spec107), (106, spec2106)]
def lv76 : Lives U := fun i => match i with
  | 0 => ([(0, []), (1, [])], [])
  | 1 => ([(0, []), (1, []), (5, [])], [((.loc 10), [.wr .op])])
  | 2 => ([(0, []), (5, []), (11, []), (12, []), (13, [])], [((.loc 10), [.wr .op, .own .tree, .own .tree])])
  | 3 => ([(0, []), (5, []), (11, []), (12, []), (13, []), (14, [])], [((.loc 10), [.wr .op])])
  | 4 => ([(0, []), (5, []), (7, []), (11, []), (12, []), (13, [])], [((.loc 7), []), ((.loc 10), [.wr .op])])
  | 5 => ([(0, []), (5, []), (7, []), (11, []), (12, []), (13, []), (18, [])], [((.loc 7), []), ((.loc 10), [.wr .op])])
  | 6 => ([(0, []), (5, []), (7, []), (11, []), (12, []), (13, []), (18, []), (19, [])], [((.loc 7), []), ((.loc 10), [.wr .op])])
  | 7 => ([(0, []), (5, []), (11, []), (12, []), (13, [])], [((.loc 10), [.wr .op])])
  | 8 => ([(0, []), (5, []), (7, []), (11, []), (12, []), (13, []), (18, []), (25, [])], [((.loc 7), []), ((.loc 10), [.wr .op])])
  | 9 => ([(0, []), (5, []), (11, []), (12, []), (13, [])], [((.loc 10), [.wr .op])])
  | 10 => ([(0, []), (5, []), (7, []), (11, []), (12, []), (13, []), (18, []), (33, [])], [((.loc 7), []), ((.loc 10), [.wr .op])])
  | 11 => ([(0, []), (5, []), (11, []), (12, []), (13, [])], [((.loc 10), [.wr .op])])
  | 12 => ([(0, []), (5, []), (7, []), (11, []), (12, []), (13, []), (41, [])], [((.loc 7), []), ((.loc 10), [.wr .op])])
  | 13 => ([(0, []), (5, []), (8, []), (11, []), (12, []), (13, [])], [((.loc 8), []), ((.loc 10), [.wr .op])])
  | 14 => ([(0, []), (5, []), (8, []), (11, []), (12, []), (13, []), (48, [])], [((.loc 8), []), ((.loc 10), [.wr .op])])
  | 15 => ([(0, []), (5, []), (11, []), (12, []), (13, [])], [((.loc 10), [.wr .op])])
  | 16 => ([(0, []), (5, []), (8, []), (11, []), (12, []), (13, [])], [((.loc 8), []), ((.loc 10), [.wr .op])])
  | 17 => ([(0, []), (5, []), (11, []), (12, []), (13, [])], [((.loc 10), [.wr .op])])
  | 18 => ([(0, []), (5, []), (11, []), (12, []), (13, [])], [((.loc 10), [.wr .op, .own .tree, .own .tree])])
  | 19 => ([(5, [])], [((.loc 10), [.wr .op])])
  | 20 => ([(4, [])], [])
  | _ => ([], [])
def head76_0 (list : Int) (l : List Op) (x13 : Int) (rl_10_0 : List Op) (ml10_1 : List Tree) (ml10_2 : List Tree) : LSt U := (⟨[(0, .c (.int .i64 list)), (5, .ptr (.loc 10) 0), (11, .c (.slice (U := U) .op l .unk)), (12, .c (.int .i64 (l.length : Int))), (13, .c (.int .i64 x13))], [((.loc 10), [.mref (.l 10 0), .slice (U := U) .tree ml10_1 (.own (.l 10 1)), .slice (U := U) .tree ml10_2 (.own (.l 10 2))])], [(.l 10 0, LC.mk (U := U) .op rl_10_0 0)]⟩ : LSt U)
abbrev W76 (N : Nat) (list : Int) (l : List Op) (Q : AExit → LSt U → Prop) := awp cfg (know (know76 N)) (drawOk cfg (know (know76 N))) Try.f76.ntmps lv76 (cd Try.f76 []) (⟨[(0, .c (.int .i64 list)), (1, .c (.slice (U := U) .op l .unk))], [], []⟩ : LSt U) Q
abbrev a76_G22d (N : Nat) := awp cfg (know (know76 N)) (drawOk cfg (know (know76 N))) Try.f76.ntmps lv76
abbrev s76_G22d (N : Nat) := seqK cfg (know (know76 N)) (drawOk cfg (know (know76 N))) Try.f76.ntmps lv76
theorem vc76 (N : Nat) (list : Int) (l : List Op) (Q : AExit → LSt U → Prop) (h : LoopWp (awp cfg (know (know76 N)) (drawOk cfg (know (know76 N))) Try.f76.ntmps lv76 (cd Try.f76 [1, 1, 0, 1, 0, 0])) (head76_0 list l 0 ([]) ([]) ([])) (AExit.inBlock 0 (seqK cfg (know (know76 N)) (drawOk cfg (know (know76 N))) Try.f76.ntmps lv76 (cd Try.f76 [1, 1, 1]) Q))) :
    W76 N list l Q := by
  have e_ : (W76 N list l Q) = ((((LoopWp (a76_G22d N (cd Try.f76 [1, 1, 0, 1, 0, 0])) (head76_0 list l 0 ([]) ([]) ([])) (AExit.inBlock 0 (s76_G22d N (cd Try.f76 [1, 1, 1]) Q)))))) := by kernel_rfl
  exact e_.mpr h
abbrev W76_l0 (N : Nat) (list : Int) (l : List Op) (x13 : Int) (rl_10_0 : List Op) (ml10_1 : List Tree) (ml10_2 : List Tree) (N0 : LSt U → Prop) (Q : AExit → LSt U → Prop) := awp cfg (know (know76 N)) (drawOk cfg (know (know76 N))) Try.f76.ntmps lv76 (cd Try.f76 [1, 1, 0, 1, 0, 0]) (head76_0 list l x13 rl_10_0 ml10_1 ml10_2) (AExit.then N0 (AExit.inBlock 0 (seqK cfg (know (know76 N)) (drawOk cfg (know (know76 N))) Try.f76.ntmps lv76 (cd Try.f76 [1, 1, 1]) Q)))
theorem vc76_l0 (N : Nat) (list : Int) (l : List Op) (x13 : Int) (rl_10_0 : List Op) (ml10_1 : List Tree) (ml10_2 : List Tree) (N0 : LSt U → Prop) (Q : AExit → LSt U → Prop) (h : ∀ y_1, y_1 = (List.getD l (Int.toNat x13) Op.nil) → ∀ y_2, y_2 = (Edit.mk 0 (Tree.mk 0 ([]) ([])) (Tree.mk 0 ([]) ([])) ([]) ([]) 0 ([])) → ∀ y_3, y_3 = (Int.toNat (((flushW (Wst.mk rl_10_0 ml10_1 ml10_2)).out).length : Int)) → ∀ y_4, y_4 = ((OpOf.e y_1)) → ∀ y_5, y_5 = ((nrmE y_4)) → ((decide ((x13 : Int) < (l.length : Int))) = true → ((0 : Int) ≤ x13 ∧ x13 < (l.length : Int)) ∧ (((((OpOf.kind y_1) : Int) == 0) = true → (pre105 ((rl_10_0, ml10_1, ml10_2, ()), (OpOf.n y_1), ())) ∧ ((InR ((x13 : Int) + 1)) ∧ (N0 (head76_0 list l ((x13 : Int) + 1) ((keepW (Wst.mk rl_10_0 ml10_1 ml10_2) (OpOf.n y_1)).out) ((keepW (Wst.mk rl_10_0 ml10_1 ml10_2) (OpOf.n y_1)).gone) ((keepW (Wst.mk rl_10_0 ml10_1 ml10_2) (OpOf.n y_1)).brought))))) ∧ ((((OpOf.kind y_1) : Int) == 0) = false → ((((OpOf.kind y_1) : Int) == 1) = true → (pre106 ((rl_10_0, ml10_1, ml10_2, ()), (OpOf.l y_1), ())) ∧ ((InR ((x13 : Int) + 1)) ∧ (N0 (head76_0 list l ((x13 : Int) + 1) ((Wst.mk rl_10_0 (ml10_1 ++ normsT (OpOf.l y_1)) ml10_2).out) ((Wst.mk rl_10_0 (ml10_1 ++ normsT (OpOf.l y_1)) ml10_2).gone) ((Wst.mk rl_10_0 (ml10_1 ++ normsT (OpOf.l y_1)) ml10_2).brought))))) ∧ ((((OpOf.kind y_1) : Int) == 1) = false → ((((OpOf.kind y_1) : Int) == 2) = true → (pre1106 ((rl_10_0, ml10_1, ml10_2, ()), (OpOf.l y_1), ())) ∧ ((InR ((x13 : Int) + 1)) ∧ (N0 (head76_0 list l ((x13 : Int) + 1) ((Wst.mk rl_10_0 ml10_1 (ml10_2 ++ normsT (OpOf.l y_1))).out) ((Wst.mk rl_10_0 ml10_1 (ml10_2 ++ normsT (OpOf.l y_1))).gone) ((Wst.mk rl_10_0 ml10_1 (ml10_2 ++ normsT (OpOf.l y_1))).brought))))) ∧ ((((OpOf.kind y_1) : Int) == 2) = false → ((((OpOf.kind y_1) : Int) == 3) = true → (pre40 (y_4, ())) ∧ (mu40 (y_4, ()) < N) ∧ ((pre1042 (list, y_5, ())) ∧ (((idleE list y_5) = true → (pre105 ((rl_10_0, ml10_1, ml10_2, ()), 1, ())) ∧ ((InR ((x13 : Int) + 1)) ∧ (N0 (head76_0 list l ((x13 : Int) + 1) ((keepW (Wst.mk rl_10_0 ml10_1 ml10_2) 1).out) ((keepW (Wst.mk rl_10_0 ml10_1 ml10_2) 1).gone) ((keepW (Wst.mk rl_10_0 ml10_1 ml10_2) 1).brought))))) ∧ ((idleE list y_5) = false → (pre107 ((rl_10_0, ml10_1, ml10_2, ()), ())) ∧ (((((flushW (Wst.mk rl_10_0 ml10_1 ml10_2)).out).length + ([(OpOf.mk 0 0 ([]) y_2 : Op)]).length) * 240 ≤ 140737488355328) ∧ ((0 : Int) ≤ (((flushW (Wst.mk rl_10_0 ml10_1 ml10_2)).out).length : Int) ∧ (((flushW (Wst.mk rl_10_0 ml10_1 ml10_2)).out).length : Int) < ((((flushW (Wst.mk rl_10_0 ml10_1 ml10_2)).out) ++ ([(OpOf.mk 0 0 ([]) y_2 : Op)])).length : Int)) ∧ ((0 : Nat) ≤ y_3) ∧ ((InR ((x13 : Int) + 1)) ∧ (N0 (head76_0 list l ((x13 : Int) + 1) (List.set (((flushW (Wst.mk rl_10_0 ml10_1 ml10_2)).out) ++ ([(OpOf.mk 0 0 ([]) y_2 : Op)])) y_3 (OpOf.mk 3 0 ([]) y_5 : Op)) ((flushW (Wst.mk rl_10_0 ml10_1 ml10_2)).gone) ((flushW (Wst.mk rl_10_0 ml10_1 ml10_2)).brought))))))))) ∧ ((((OpOf.kind y_1) : Int) == 3) = false → (InR ((x13 : Int) + 1)) ∧ (N0 (head76_0 list l ((x13 : Int) + 1) rl_10_0 ml10_1 ml10_2)))))))) ∧ ((decide ((x13 : Int) < (l.length : Int))) = false → (pre107 ((rl_10_0, ml10_1, ml10_2, ()), ())) ∧ (Q .ret (⟨[(4, .c (.slice (U := U) .op ((flushW (Wst.mk rl_10_0 ml10_1 ml10_2)).out) (.own (.e 4 0))))], [], []⟩ : LSt U)))) :
    W76_l0 N list l x13 rl_10_0 ml10_1 ml10_2 N0 Q := by
  have e_ : (W76_l0 N list l x13 rl_10_0 ml10_1 ml10_2 N0 Q) = (let y_1 := (List.getD l (Int.toNat x13) Op.nil); let y_2 := (Edit.mk 0 (Tree.mk 0 ([]) ([])) (Tree.mk 0 ([]) ([])) ([]) ([]) 0 ([])); let y_3 := (Int.toNat (((flushW (Wst.mk rl_10_0 ml10_1 ml10_2)).out).length : Int)); let y_4 := (reEdit (OpOf.e y_1)); let y_5 := (reEdit (nrmE y_4)); (((decide ((x13 : Int) < (l.length : Int))) = true → ((0 : Int) ≤ x13 ∧ x13 < (l.length : Int)) ∧ ((((((OpOf.kind y_1) == 0) = true → (pre105 ((rl_10_0, ml10_1, ml10_2, ()), (OpOf.n y_1), ())) ∧ ((InR ((x13 : Int) + 1)) ∧ (N0 (head76_0 list l ((x13 : Int) + 1) ((keepW (Wst.mk rl_10_0 ml10_1 ml10_2) (OpOf.n y_1)).out) ((keepW (Wst.mk rl_10_0 ml10_1 ml10_2) (OpOf.n y_1)).gone) ((keepW (Wst.mk rl_10_0 ml10_1 ml10_2) (OpOf.n y_1)).brought))))) ∧ (((OpOf.kind y_1) == 0) = false → ((((OpOf.kind y_1) == 1) = true → (pre106 ((rl_10_0, ml10_1, ml10_2, ()), (OpOf.l y_1), ())) ∧ ((InR ((x13 : Int) + 1)) ∧ (N0 (head76_0 list l ((x13 : Int) + 1) ((Wst.mk rl_10_0 (ml10_1 ++ normsT (OpOf.l y_1)) ml10_2).out) ((Wst.mk rl_10_0 (ml10_1 ++ normsT (OpOf.l y_1)) ml10_2).gone) ((Wst.mk rl_10_0 (ml10_1 ++ normsT (OpOf.l y_1)) ml10_2).brought))))) ∧ (((OpOf.kind y_1) == 1) = false → ((((OpOf.kind y_1) == 2) = true → (pre1106 ((rl_10_0, ml10_1, ml10_2, ()), (OpOf.l y_1), ())) ∧ ((InR ((x13 : Int) + 1)) ∧ (N0 (head76_0 list l ((x13 : Int) + 1) ((Wst.mk rl_10_0 ml10_1 (ml10_2 ++ normsT (OpOf.l y_1))).out) ((Wst.mk rl_10_0 ml10_1 (ml10_2 ++ normsT (OpOf.l y_1))).gone) ((Wst.mk rl_10_0 ml10_1 (ml10_2 ++ normsT (OpOf.l y_1))).brought))))) ∧ (((OpOf.kind y_1) == 2) = false → ((((OpOf.kind y_1) == 3) = true → (pre40 (y_4, ())) ∧ (mu40 (y_4, ()) < N) ∧ ((pre1042 (list, y_5, ())) ∧ (((idleE list y_5) = true → (pre105 ((rl_10_0, ml10_1, ml10_2, ()), 1, ())) ∧ ((InR ((x13 : Int) + 1)) ∧ (N0 (head76_0 list l ((x13 : Int) + 1) ((keepW (Wst.mk rl_10_0 ml10_1 ml10_2) 1).out) ((keepW (Wst.mk rl_10_0 ml10_1 ml10_2) 1).gone) ((keepW (Wst.mk rl_10_0 ml10_1 ml10_2) 1).brought))))) ∧ ((idleE list y_5) = false → (pre107 ((rl_10_0, ml10_1, ml10_2, ()), ())) ∧ (((((flushW (Wst.mk rl_10_0 ml10_1 ml10_2)).out).length + ([(OpOf.mk 0 0 ([]) y_2 : Op)]).length) * 240 ≤ 140737488355328) ∧ ((0 : Int) ≤ (((flushW (Wst.mk rl_10_0 ml10_1 ml10_2)).out).length : Int) ∧ (((flushW (Wst.mk rl_10_0 ml10_1 ml10_2)).out).length : Int) < ((((flushW (Wst.mk rl_10_0 ml10_1 ml10_2)).out) ++ ([(OpOf.mk 0 0 ([]) y_2 : Op)])).length : Int)) ∧ ((0 : Nat) ≤ y_3) ∧ ((InR ((x13 : Int) + 1)) ∧ (N0 (head76_0 list l ((x13 : Int) + 1) (List.set (((flushW (Wst.mk rl_10_0 ml10_1 ml10_2)).out) ++ ([(OpOf.mk 0 0 ([]) y_2 : Op)])) y_3 (OpOf.mk 3 0 ([]) y_5 : Op)) ((flushW (Wst.mk rl_10_0 ml10_1 ml10_2)).gone) ((flushW (Wst.mk rl_10_0 ml10_1 ml10_2)).brought))))))))) ∧ (((OpOf.kind y_1) == 3) = false → (InR ((x13 : Int) + 1)) ∧ (N0 (head76_0 list l ((x13 : Int) + 1) rl_10_0 ml10_1 ml10_2))))))))))))) ∧ ((decide ((x13 : Int) < (l.length : Int))) = false → (pre107 ((rl_10_0, ml10_1, ml10_2, ()), ())) ∧ ((Q .ret (⟨[(4, .c (.slice (U := U) .op ((flushW (Wst.mk rl_10_0 ml10_1 ml10_2)).out) (.own (.e 4 0))))], [], []⟩ : LSt U)))))) := by kernel_rfl
  exact e_.mpr (by intro y_1 y_2 y_3 y_4 y_5; have hh := h y_1 rfl y_2 rfl y_3 rfl y_4 (reEdit_eq _) y_5 (reEdit_eq _); exact ⟨fun c_5 => ⟨(hh.1 c_5).1, ⟨fun c_6 => ⟨((hh.1 c_5).2.1 c_6).1, ⟨((hh.1 c_5).2.1 c_6).2.1, ((hh.1 c_5).2.1 c_6).2.2⟩⟩, fun c_6 => ⟨fun c_7 => ⟨(((hh.1 c_5).2.2 c_6).1 c_7).1, ⟨(((hh.1 c_5).2.2 c_6).1 c_7).2.1, (((hh.1 c_5).2.2 c_6).1 c_7).2.2⟩⟩, fun c_7 => ⟨fun c_8 => ⟨((((hh.1 c_5).2.2 c_6).2 c_7).1 c_8).1, ⟨((((hh.1 c_5).2.2 c_6).2 c_7).1 c_8).2.1, ((((hh.1 c_5).2.2 c_6).2 c_7).1 c_8).2.2⟩⟩, fun c_8 => ⟨fun c_9 => ⟨(((((hh.1 c_5).2.2 c_6).2 c_7).2 c_8).1 c_9).1, (((((hh.1 c_5).2.2 c_6).2 c_7).2 c_8).1 c_9).2.1, ⟨(((((hh.1 c_5).2.2 c_6).2 c_7).2 c_8).1 c_9).2.2.1, ⟨fun c_10 => ⟨((((((hh.1 c_5).2.2 c_6).2 c_7).2 c_8).1 c_9).2.2.2.1 c_10).1, ⟨((((((hh.1 c_5).2.2 c_6).2 c_7).2 c_8).1 c_9).2.2.2.1 c_10).2.1, ((((((hh.1 c_5).2.2 c_6).2 c_7).2 c_8).1 c_9).2.2.2.1 c_10).2.2⟩⟩, fun c_10 => ⟨((((((hh.1 c_5).2.2 c_6).2 c_7).2 c_8).1 c_9).2.2.2.2 c_10).1, ⟨((((((hh.1 c_5).2.2 c_6).2 c_7).2 c_8).1 c_9).2.2.2.2 c_10).2.1, ((((((hh.1 c_5).2.2 c_6).2 c_7).2 c_8).1 c_9).2.2.2.2 c_10).2.2.1, ((((((hh.1 c_5).2.2 c_6).2 c_7).2 c_8).1 c_9).2.2.2.2 c_10).2.2.2.1, ⟨((((((hh.1 c_5).2.2 c_6).2 c_7).2 c_8).1 c_9).2.2.2.2 c_10).2.2.2.2.1, ((((((hh.1 c_5).2.2 c_6).2 c_7).2 c_8).1 c_9).2.2.2.2 c_10).2.2.2.2.2⟩⟩⟩⟩⟩⟩, fun c_9 => ⟨(((((hh.1 c_5).2.2 c_6).2 c_7).2 c_8).2 c_9).1, (((((hh.1 c_5).2.2 c_6).2 c_7).2 c_8).2 c_9).2⟩⟩⟩⟩⟩⟩, fun c_5 => ⟨(hh.2 c_5).1, (hh.2 c_5).2⟩⟩)
def Body76 (N : Nat) (list : Int) (l : List Op)  : Prop := awp cfg (know (know76 N)) (drawOk cfg (know (know76 N))) Try.f76.ntmps lv76 (cd Try.f76 []) (entry (args76.can (list, l, ())) []) (EndsQ cfg Try.f76.ntmps Try.f76.results.toList (res76 (list, l, ())) [])
abbrev HB76 : Prop := ∀ (N : Nat) (list : Int) (l : List Op) (_ : Unit), pre76 (list, l, ()) → mu76 (list, l, ()) < N + 1 → Body76 N list l
theorem make40_76 (c32 : Contract Try.prog cfg 32 spec32) (c1042 : Contract Try.prog cfg 42 spec1042) (c105 : Contract Try.prog cfg 105 spec105) (c107 : Contract Try.prog cfg 107 spec107) (c2106 : Contract Try.prog cfg 106 spec2106) (ha : HB40) (hb : HB76) : Contract Try.prog cfg 40 spec40 ∧ Contract Try.prog cfg 76 spec76 :=
  contract_mut2 (μA := mu40) (μB := mu76) (l := [(32, spec32), (42, spec1042), (105, spec105), (107, spec107), (106, spec2106)]) cfgOk rfl (⟨c32, c1042, c105, c107, c2106, trivial⟩) lv40 lv76 Try.func40 Try.func76 rfl rfl rfl rfl 1 2 (fun _ => rfl) (fun _ => rfl) (by decide) (by decide) (fun N ⟨e, _⟩ => ha N e ()) (fun N ⟨list, l, _⟩ => hb N list l ())
end
end Go.AM.Ytlahjnelghpmeaa

namespace Go.AM.Ytlahjnelghpmeaa
open Go.AM Go.Proofs
theorem keepW_len (s : Wst) (n : Int) : (keepW s n).out.length ≤ s.out.length + 3 := by
  have h := flush_len s
  simp only [keepW]
  rw [keepO_at]
  split
  · rw [List.length_set]; omega
  · rw [List.length_append]; simp; omega
theorem keepW_n {s : Wst} {n B K : Int} (hB : 0 ≤ B) (hn : 0 ≤ n ∧ n ≤ K) (h : ∀ o ∈ s.out, 0 ≤ o.n ∧ o.n ≤ B) : ∀ o ∈ (keepW s n).out, 0 ≤ o.n ∧ o.n ≤ B + K := by
  have hF : ∀ o ∈ (flushW s).out, 0 ≤ o.n ∧ o.n ≤ B := by
    intro o ho
    rcases flush_mem s o ho with h1 | h1
    · exact h o h1
    · omega
  intro o ho
  simp only [keepW] at ho
  rw [keepO_at] at ho
  split at ho
  · rename_i hc
    rcases List.mem_or_eq_of_mem_set ho with ho | rfl
    · have := hF o ho; omega
    · have := hF _ (mem_getD (l := (flushW s).out) (i := (flushW s).out.length - 1) (by omega) Op.nil)
      simp only; omega
  · rcases List.mem_append.1 ho with ho | ho
    · have := hF o ho; omega
    · simp only [List.mem_singleton] at ho; subst ho; simp only; omega
theorem nrmKs_lenW : ∀ (l : List Kid), (nrmKs l).length = l.length
  | [] => rfl
  | k :: r => by simp [nrmKs, nrmKs_lenW r]
theorem nrmE_words (e : Edit) : (nrmE e).words.length ≤ e.words.length ∧ (nrmE e).kids.length ≤ e.kids.length := by
  rw [nrmE_at]
  split
  · simp
  · split
    · simp [nrmKs_lenW]
    · split <;> simp
theorem rightOp_keep {list : Int} {o : Op} {d : Int} (h : rightOp list o d = true) (hk : o.kind = 0) : 1 ≤ o.n ∧ o.n ≤ 1048576 := by
  obtain ⟨k, n, l, e⟩ := o
  simp only at hk
  subst hk
  simp [rightOp] at h
  show 1 ≤ n ∧ n ≤ 1048576
  omega
theorem rightOp_desc {list : Int} {o : Op} {d : Int} (h : rightOp list o d = true) (hk : o.kind = 3) : rightE o.e d = true := by
  obtain ⟨k, n, l, e⟩ := o
  simp only at hk
  subst hk
  simp [rightOp] at h
  exact h.2.1.2
theorem kid_right {e : Edit} {d : Int} (h : rightE e d = true) (hk : e.kind = 2) : ∀ k ∈ e.kids, ∃ d, rightE k.e d = true := by
  obtain ⟨k, o, n, w, ks, l, os⟩ := e
  change k = 2 at hk
  subst hk
  have hks : ∃ d last, rightKs last ks d = true := by
    unfold rightE at h
    split at h
    · cases h
    · split at h
      · cases h
      · rw [if_neg (by omega)] at h
        simp only [Bool.and_eq_true] at h
        exact ⟨_, _, h.1.1.1.2⟩
  obtain ⟨d', last, hks⟩ := hks
  change ∀ k ∈ ks, _
  clear h
  induction ks generalizing last with
  | nil => intro k hk; cases hk
  | cons a r ih =>
    simp only [rightKs, Bool.and_eq_true] at hks
    intro k hk
    rcases List.mem_cons.1 hk with rfl | hk
    · obtain ⟨a, e⟩ := k
      simp only [rightKid, Bool.and_eq_true] at hks
      exact ⟨_, hks.1.2⟩
    · exact ih _ hks.2 k hk
theorem op_right {e : Edit} {d : Int} (h : rightE e d = true) (hk : e.kind = 3) : ∀ o ∈ e.ops, ∃ d, rightOp e.list o d = true := by
  obtain ⟨k, o, n, w, ks, l, os⟩ := e
  change k = 3 at hk
  subst hk
  have hos : ∃ d, rightOs l os d = true := by
    unfold rightE at h
    split at h
    · cases h
    · split at h
      · cases h
      · rw [if_neg (by omega)] at h
        simp only [Bool.and_eq_true] at h
        exact ⟨_, h.1.2⟩
  obtain ⟨d', hos⟩ := hos
  change ∀ o ∈ os, ∃ d, rightOp l o d = true
  clear h
  induction os with
  | nil => intro k hk; cases hk
  | cons a r ih =>
    simp only [rightOs, Bool.and_eq_true] at hos
    intro k hk
    rcases List.mem_cons.1 hk with rfl | hk
    · exact ⟨_, hos.1⟩
    · exact ih hos.2 k hk
theorem b76 : HB76 := by
  intro N list l _ hp hN
  simp only [pre76, mu76] at hp hN
  obtain ⟨p1, p3⟩ := hp
  have hl := massOs_len l
  refine vc76 _ _ _ _ ?_
  refine loop_rule (ι := Int × Wst) (fun s => head76_0 list l s.1 s.2.out s.2.gone s.2.brought)
    (fun s => 0 ≤ s.1 ∧ s.1 ≤ l.length ∧ nrmOs list (l.drop s.1.toNat) s.2 = nrmOs list l ⟨[], [], []⟩ ∧ s.2.out.length ≤ 3 * s.1 ∧ s.2.gone.length + s.2.brought.length + massOs (l.drop s.1.toNat) ≤ massOs l ∧ ∀ o ∈ s.2.out, 0 ≤ o.n ∧ o.n ≤ s.1 * 1048576)
    (fun s => ((l.length : Int) - s.1).toNat) (0, ⟨[], [], []⟩) rfl ⟨by simp, by simp, by simp, by simp, by simp, by simp⟩ ?_
  rintro ⟨i, s⟩ ⟨g1, g2, g3, g4, g5, g6⟩
  dsimp only at g1 g2 g3 g4 g5 g6
  refine vc76_l0 _ _ _ _ _ _ _ _ _ ?_
  rintro y1 hy1 y2 hy2 y3 hy3 y4 hy4 y5 hy5
  have hy : y2 = Edit.nil := hy2
  subst hy
  have es : Wst.mk s.out s.gone s.brought = s := rfl
  simp only [es] at hy3 ⊢
  (simp only [vcS])
  refine ⟨fun hi => ?_, fun hi => ?_⟩
  · have hmem := mem_getD (l := l) (i := i.toNat) (by omega) Op.nil
    have hm := massOs_mem hmem
    have hr := p3 _ hmem
    rw [dropI g1 hi Op.nil] at g3 g5
    rw [← hy1] at g3 g5 hm hr
    have hmo := massOp_e y1
    simp only [nrmOs, nrmOp_at, massOs] at g3 g5
    rw [← hy4, ← hy5] at g3
    obtain ⟨d, hr2⟩ := hr
    have hfl := flush_len s
    have hP : ∀ n : Int, 0 ≤ n ∧ n ≤ 1048576 → pre105 ((s.out, s.gone, s.brought, ()), n, ()) := by
      intro n hn
      simp only [pre105]
      refine ⟨by omega, by omega, by omega, fun o ho => ?_, by omega, by omega⟩
      have := g6 o ho
      constructor
      · omega
      · have : i * 1048576 ≤ 1000000 * 1048576 := by omega
        omega
    have hK : ∀ n : Int, 0 ≤ n ∧ n ≤ 1048576 → nrmOs list (l.drop (i + 1).toNat) (keepW s n) = nrmOs list l ⟨[], [], []⟩ →
        (∃ j : Int × Wst, head76_0 list l (i + 1) (keepW s n).out (keepW s n).gone (keepW s n).brought = head76_0 list l j.1 j.2.out j.2.gone j.2.brought ∧ (0 ≤ j.1 ∧ j.1 ≤ l.length ∧ nrmOs list (l.drop j.1.toNat) j.2 = nrmOs list l ⟨[], [], []⟩ ∧ j.2.out.length ≤ 3 * j.1 ∧ j.2.gone.length + j.2.brought.length + massOs (l.drop j.1.toNat) ≤ massOs l ∧ ∀ o ∈ j.2.out, 0 ≤ o.n ∧ o.n ≤ j.1 * 1048576) ∧ ((l.length : Int) - j.1).toNat < ((l.length : Int) - i).toNat) := by
      intro n hn he
      have h1 := keepW_len s n
      have h2 := keepW_n (s := s) (n := n) (B := i * 1048576) (K := 1048576) (by omega) hn g6
      refine ⟨(i + 1, keepW s n), rfl, ⟨by dsimp only; omega, by dsimp only; omega, he, by dsimp only; omega, by simp only [keepW, List.length_nil]; omega, fun o ho => ?_⟩, by dsimp only; omega⟩
      have := h2 o ho
      dsimp only
      omega
    refine ⟨⟨g1, hi⟩, fun hk => ?_, fun hk => ⟨fun hk1 => ?_, fun hk1 => ⟨fun hk2 => ?_, fun hk2 => ⟨fun hk3 => ?_, fun hk3 => ?_⟩⟩⟩⟩
    · rw [if_pos hk] at g3
      have h1 := rightOp_keep hr2 hk
      exact ⟨hP _ (by omega), by unfold InR; omega, hK _ (by omega) g3⟩
    · rw [if_neg hk, if_pos hk1] at g3
      refine ⟨by simp only [pre106]; omega, by unfold InR; omega, (i + 1, ⟨s.out, s.gone ++ normsT y1.l, s.brought⟩), rfl, ⟨by dsimp only; omega, by dsimp only; omega, g3, by dsimp only; omega, ?_, fun o ho => ?_⟩, by dsimp only; omega⟩
      · have := massK_len y1.l
        simp only [List.length_append, normsT, List.length_map]; omega
      · have := g6 o ho
        dsimp only; omega
    · rw [if_neg hk, if_neg hk1, if_pos hk2] at g3
      refine ⟨by simp only [pre1106]; omega, by unfold InR; omega, (i + 1, ⟨s.out, s.gone, s.brought ++ normsT y1.l⟩), rfl, ⟨by dsimp only; omega, by dsimp only; omega, g3, by dsimp only; omega, ?_, fun o ho => ?_⟩, by dsimp only; omega⟩
      · have := massK_len y1.l
        simp only [List.length_append, normsT, List.length_map]; omega
      · have := g6 o ho
        dsimp only; omega
    · rw [if_neg hk, if_neg hk1, if_neg hk2, if_pos hk3] at g3
      have hre := rightOp_desc hr2 hk3
      rw [← hy4] at hre
      have hw := nrmE_words y4
      rw [← hy5] at hw
      have h1 := len_massE y4
      have h2 := massKs_len y4.kids
      have hmE : massE y4 ≤ massOp y1 := by rw [hmo, hy4]; omega
      refine ⟨by simp only [pre40]; exact ⟨by omega, d, hre⟩, by simp only [mu40]; omega, by simp only [pre1042]; omega, fun hq => ?_, fun hq => ?_⟩
      · rw [if_pos hq] at g3
        exact ⟨hP 1 (by omega), by unfold InR; omega, hK 1 (by omega) g3⟩
      · rw [if_neg (by rw [hq]; simp)] at g3
        rw [hy3, set_last]
        refine ⟨by simp only [pre107]; omega, by simp only [List.length_cons, List.length_nil]; omega, by simp only [List.length_append, List.length_cons, List.length_nil]; omega, by omega, by unfold InR; omega, (i + 1, ⟨(flushW s).out ++ [⟨3, 0, [], y5⟩], [], []⟩), rfl, ⟨by dsimp only; omega, by dsimp only; omega, g3, by simp; omega, by simp; omega, fun o ho => ?_⟩, by dsimp only; omega⟩
        dsimp only at ho ⊢
        rcases List.mem_append.1 ho with ho | ho
        · rcases flush_mem s o ho with h5 | h5
          · have := g6 o h5; omega
          · omega
        · simp only [List.mem_singleton] at ho
          subst ho
          simp only; omega
    · rw [if_neg hk, if_neg hk1, if_neg hk2, if_neg hk3] at g3
      refine ⟨by unfold InR; omega, (i + 1, s), rfl, ⟨by dsimp only; omega, by dsimp only; omega, g3, by dsimp only; omega, by dsimp only; omega, fun o ho => ?_⟩, by dsimp only; omega⟩
      have := g6 o ho
      dsimp only; omega
  · rw [List.drop_of_length_le (by omega)] at g3
    simp only [nrmOs] at g3
    refine ⟨by simp only [pre107]; omega, ?_⟩
    simp only [res76]
    rw [← g3]
    (repeat' (first | exact trivial | exact rfl | apply And.intro))
theorem b40 : HB40 := by
  intro N e _ hp hN
  simp only [pre40, mu40] at hp hN
  obtain ⟨p1, d, p3⟩ := hp
  have h1 := len_massE e
  have h2 := massKs_len e.kids
  have h3 := massOs_len e.ops
  have ha := nrmE_at e
  refine vc40 _ _ _ ?_
  (simp only [vcS])
  (simp only [Tree.eta, Edit.eta, Tree.kind_mk, Tree.words_mk, Tree.kids_mk])
  refine ⟨fun hk => ⟨by simp only [pre32]; omega, by simp only [pre32]; omega, ?_⟩, fun hk => ⟨fun hk2 => ⟨by simp; omega, ?_⟩, fun hk2 => ⟨fun hk3 => ⟨?_, by simp only [mu76]; omega, ?_⟩, fun hk3 => ?_⟩⟩⟩
  · rw [if_pos hk] at ha
    simp only [res40, ha]
    (repeat' (first | exact trivial | exact rfl | apply And.intro))
  · rw [if_neg hk, if_pos hk2] at ha
    refine loop_rule (ι := Int × List Kid) (fun s => head40_0 e s.1 s.2) (fun s => 0 ≤ s.1 ∧ s.1 ≤ e.kids.length ∧ s.2.length = s.1 ∧ s.2 ++ nrmKs (e.kids.drop s.1.toNat) = nrmKs e.kids) (fun s => ((e.kids.length : Int) - s.1).toNat) (0, []) rfl ⟨by simp, by simp, by simp, by simp⟩ ?_
    rintro ⟨j, ks⟩ ⟨f1, f2, f3, f4⟩
    dsimp only at f1 f2 f3 f4
    refine vc40_l0 _ _ _ _ _ _ ?_
    rintro y1 hy1 y2 hy2 y3 hy3
    (simp only [vcS])
    refine ⟨fun hj => ?_, fun hj => ?_⟩
    · have hmem := mem_getD (l := e.kids) (i := j.toNat) (by omega) (KidOf.mk 0 Edit.nil)
      have hm := massKs_mem hmem
      have hr := kid_right p3 hk2 _ hmem
      rw [dropI f1 hj (KidOf.mk 0 Edit.nil)] at f4
      rw [← hy1] at f4 hm hr
      simp only [nrmKs, nrmKid_at] at f4
      rw [← hy2] at f4 hm hr
      rw [← hy3] at f4
      refine ⟨⟨f1, hj⟩, by simp only [pre40]; exact ⟨by omega, hr⟩, by simp only [mu40]; omega, by simp; omega, by unfold InR; omega, (j + 1, ks ++ [⟨y1.at_, y3⟩]), rfl, ⟨by dsimp only; omega, by dsimp only; omega, by simp; omega, ?_⟩, by dsimp only; omega⟩
      simp only [List.append_assoc, List.cons_append, List.nil_append]
      exact f4
    · rw [List.drop_of_length_le (by omega)] at f4
      simp only [nrmKs, List.append_nil] at f4
      rw [f4]
      simp only [res40, ha]
      (repeat' (first | exact trivial | exact rfl | apply And.intro))
  · simp only [pre76]
    exact ⟨by omega, fun o ho => op_right p3 hk3 o ho⟩
  · rw [if_neg hk, if_neg hk2, if_pos hk3] at ha
    simp only [res40, ha]
    (repeat' (first | exact trivial | exact rfl | apply And.intro))
  · rw [if_neg hk, if_neg hk2, if_neg hk3] at ha
    simp only [res40, ha]
    (repeat' (first | exact trivial | exact rfl | apply And.intro))
theorem c40_76 : Contract Try.prog cfg 40 spec40 ∧ Contract Try.prog cfg 76 spec76 := make40_76 c32 c1042 c105 c107 c2106 b40 b76
end Go.AM.Ytlahjnelghpmeaa

namespace Go.AM.Ytlahjnelghpmeaa
open Go.AM Go.Proofs
abbrev TrG23a (p : Prop) : Prop := p → p
def args45 : ArgL (Edit × Unit) := (.cons (aEl .edit) .nil)
def pre45 (a : Edit × Unit) : Prop := massE a.1 ≤ 1000000 ∧ ∃ d, rightE a.1 d = true
noncomputable def res45 (a : Edit × Unit) : V U := .agg [.int .i64 (Edit.kind (nrmE (turnE a.1))), .int .i64 (Tree.kind (Edit.old (nrmE (turnE a.1)))), .slice (U := U) .u64 (Tree.words (Edit.old (nrmE (turnE a.1)))) .unk, .slice (U := U) .tree (Tree.kids (Edit.old (nrmE (turnE a.1)))) .unk, .int .i64 (Tree.kind (Edit.new (nrmE (turnE a.1)))), .slice (U := U) .u64 (Tree.words (Edit.new (nrmE (turnE a.1)))) .unk, .slice (U := U) .tree (Tree.kids (Edit.new (nrmE (turnE a.1)))) .unk, .slice (U := U) .wedit (Edit.words (nrmE (turnE a.1))) .unk, .slice (U := U) .kid (Edit.kids (nrmE (turnE a.1))) .unk, .int .i64 (Edit.list (nrmE (turnE a.1))), .slice (U := U) .op (Edit.ops (nrmE (turnE a.1))) .unk]
noncomputable def spec45 : Fs U := fs args45 (fun a => [pre45 a]) res45
def args44 : ArgL (Unit) := .nil
def pre44 (a : Unit) : Prop := True
noncomputable def res44 (a : Unit) : V U := .c (.bool true)
noncomputable def spec44 : Fs U := fs args44 (fun a => [pre44 a]) res44
noncomputable def know45 : List (FuncId × Fs U) := [(40, spec40), (79, spec79)]
def lv45 : Lives U := fun i => match i with
  | 0 => ([(1, []), (2, [])], [((.loc 1), []), ((.loc 2), [])])
  | 1 => ([(2, [])], [((.loc 2), [])])
  | _ => ([], [])
abbrev W45 (e : Edit) (Q : AExit → LSt U → Prop) := awp cfg (know know45) (drawOk cfg (know know45)) Try.f45.ntmps lv45 (cd Try.f45 []) (⟨[(0, .agg [.int .i64 (Edit.kind e), .int .i64 (Tree.kind (Edit.old e)), .slice (U := U) .u64 (Tree.words (Edit.old e)) .unk, .slice (U := U) .tree (Tree.kids (Edit.old e)) .unk, .int .i64 (Tree.kind (Edit.new e)), .slice (U := U) .u64 (Tree.words (Edit.new e)) .unk, .slice (U := U) .tree (Tree.kids (Edit.new e)) .unk, .slice (U := U) .wedit (Edit.words e) .unk, .slice (U := U) .kid (Edit.kids e) .unk, .int .i64 (Edit.list e), .slice (U := U) .op (Edit.ops e) .unk])], [], []⟩ : LSt U) Q
theorem vc45 (e : Edit) (Q : AExit → LSt U → Prop) (h : ∀ y_1, y_1 = (e) → ∀ y_2, y_2 = ((turnE y_1)) → (pre79 (y_1, ())) ∧ (pre40 (y_2, ())) ∧ (Q .ret (⟨[(2, .ptr (.loc 2) 0)], [((.loc 2), [.int .i64 (Edit.kind (nrmE y_2)), .int .i64 (Tree.kind (Edit.old (nrmE y_2))), .slice (U := U) .u64 (Tree.words (Edit.old (nrmE y_2))) .unk, .slice (U := U) .tree (Tree.kids (Edit.old (nrmE y_2))) .unk, .int .i64 (Tree.kind (Edit.new (nrmE y_2))), .slice (U := U) .u64 (Tree.words (Edit.new (nrmE y_2))) .unk, .slice (U := U) .tree (Tree.kids (Edit.new (nrmE y_2))) .unk, .slice (U := U) .wedit (Edit.words (nrmE y_2)) .unk, .slice (U := U) .kid (Edit.kids (nrmE y_2)) .unk, .int .i64 (Edit.list (nrmE y_2)), .slice (U := U) .op (Edit.ops (nrmE y_2)) .unk])], []⟩ : LSt U))) :
    W45 e Q := by
  have e_ : (W45 e Q) = (let y_1 := (reEdit e); let y_2 := (reEdit (turnE y_1)); ((pre79 (y_1, ())) ∧ (pre40 (y_2, ())) ∧ (Q .ret (⟨[(2, .ptr (.loc 2) 0)], [((.loc 2), [.int .i64 (Edit.kind (nrmE y_2)), .int .i64 (Tree.kind (Edit.old (nrmE y_2))), .slice (U := U) .u64 (Tree.words (Edit.old (nrmE y_2))) .unk, .slice (U := U) .tree (Tree.kids (Edit.old (nrmE y_2))) .unk, .int .i64 (Tree.kind (Edit.new (nrmE y_2))), .slice (U := U) .u64 (Tree.words (Edit.new (nrmE y_2))) .unk, .slice (U := U) .tree (Tree.kids (Edit.new (nrmE y_2))) .unk, .slice (U := U) .wedit (Edit.words (nrmE y_2)) .unk, .slice (U := U) .kid (Edit.kids (nrmE y_2)) .unk, .int .i64 (Edit.list (nrmE y_2)), .slice (U := U) .op (Edit.ops (nrmE y_2)) .unk])], []⟩ : LSt U)))) := by kernel_rfl
  exact e_.mpr (by intro y_1 y_2; have hh := h y_1 (reEdit_eq _) y_2 (reEdit_eq _); exact ⟨hh.1, hh.2.1, hh.2.2⟩)
def Body45 (e : Edit)  : Prop := awp cfg (know (know45)) (drawOk cfg (know (know45))) Try.f45.ntmps lv45 (cd Try.f45 []) (entry (args45.can (e, ())) []) (EndsQ cfg Try.f45.ntmps Try.f45.results.toList (res45 (e, ())) [])
theorem make45 (c40 : Contract Try.prog cfg 40 spec40) (c79 : Contract Try.prog cfg 79 spec79) (hb : ∀ (e : Edit) (_ : Unit), pre45 (e, ()) → Body45 e) : Contract Try.prog cfg 45 spec45 :=
  contract_flat (l := [(40, spec40), (79, spec79)]) cfgOk rfl (⟨c40, c79, trivial⟩) lv45 Try.func45 rfl rfl 1 (fun _ => rfl) (by decide) (fun ⟨e, _⟩ => hb e ())
noncomputable def know44 : List (FuncId × Fs U) := [(45, spec45)]
def lv44 : Lives U := fun i => match i with
  | 0 => ([], [])
  | 1 => ([(1, [])], [])
  | 2 => ([(2, [])], [((.loc 2), [])])
  | 3 => ([(0, [])], [])
  | _ => ([], [])
abbrev W44 (Q : AExit → LSt U → Prop) := awp cfg (know know44) (drawOk cfg (know know44)) Try.f44.ntmps lv44 (cd Try.f44 []) (⟨[], [], []⟩ : LSt U) Q
theorem vc44 (Q : AExit → LSt U → Prop) (h : ∀ y_1, y_1 = (Edit.mk 0 (Tree.mk 0 ([]) ([])) (Tree.mk 0 ([]) ([])) ([]) ([]) 0 ([])) → ∀ y_2, y_2 = (Edit.mk 3 (Tree.mk 0 ([]) ([])) (Tree.mk 0 ([]) ([])) ([]) ([]) 4 ([(OpOf.mk 2 0 ([(Tree.mk 10 ([1]) ([]))]) y_1 : Op), (OpOf.mk 0 1 ([]) y_1 : Op)])) → ∀ y_3, y_3 = (List.getD (Edit.ops (nrmE (turnE y_2))) (Int.toNat 0) Op.nil) → (pre45 (y_2, ())) ∧ ((((((Edit.ops (nrmE (turnE y_2))).length : Int) : Int) == 2) = true → (0 : Int) ≤ 0 ∧ 0 < ((Edit.ops (nrmE (turnE y_2))).length : Int)) ∧ ((bif ((((Edit.ops (nrmE (turnE y_2))).length : Int) : Int) == 2) then (((OpOf.kind y_3) : Int) == 1) else false) = true → (0 : Int) ≤ 1 ∧ 1 < ((Edit.ops (nrmE (turnE y_2))).length : Int)) ∧ (Q .ret (⟨[(0, .c (.bool (bif (bif ((((Edit.ops (nrmE (turnE y_2))).length : Int) : Int) == 2) then (((OpOf.kind y_3) : Int) == 1) else false) then (((OpOf.kind (List.getD (Edit.ops (nrmE (turnE y_2))) (Int.toNat 1) Op.nil)) : Int) == 0) else false)))], [], []⟩ : LSt U)))) :
    W44 Q := by
  have e_ : (W44 Q) = (let y_1 := (Edit.mk 0 (Tree.mk 0 ([]) ([])) (Tree.mk 0 ([]) ([])) ([]) ([]) 0 ([])); let y_2 := (Edit.mk 3 (Tree.mk 0 ([]) ([])) (Tree.mk 0 ([]) ([])) ([]) ([]) 4 ([(OpOf.mk 2 0 ([(Tree.mk 10 ([1]) ([]))]) y_1 : Op), (OpOf.mk 0 1 ([]) y_1 : Op)])); let y_3 := (List.getD (Edit.ops (nrmE (turnE y_2))) (Int.toNat 0) Op.nil); let zz1 := ((OpOf.kind y_3) == 1); let zz0 := ((((Edit.ops (nrmE (turnE y_2))).length : Int) : Int) == 2); (((pre45 (y_2, ())) ∧ ((TrG23a (zz0 = true)) ∧ (TrG23a (zz0 = true)) ∧ (zz0 = true → (0 : Int) ≤ 0 ∧ 0 < ((Edit.ops (nrmE (turnE y_2))).length : Int)) ∧ (TrG23a (zz0 = true)) ∧ (TrG23a (zz0 = true)) ∧ (TrG23a (zz0 = true)) ∧ ((TrG23a (zz0 = true))) ∧ (TrG23a ((bif zz0 then zz1 else false) = true)) ∧ (TrG23a ((bif zz0 then zz1 else false) = true)) ∧ ((bif zz0 then zz1 else false) = true → (0 : Int) ≤ 1 ∧ 1 < ((Edit.ops (nrmE (turnE y_2))).length : Int)) ∧ (TrG23a ((bif zz0 then zz1 else false) = true)) ∧ (TrG23a ((bif zz0 then zz1 else false) = true)) ∧ (TrG23a ((bif zz0 then zz1 else false) = true)) ∧ ((TrG23a ((bif zz0 then zz1 else false) = true))) ∧ (Q .ret (⟨[(0, .c (.bool (bif (bif zz0 then zz1 else false) then (((OpOf.kind (List.getD (Edit.ops (nrmE (turnE y_2))) (Int.toNat 1) Op.nil)) : Int) == 0) else false)))], [], []⟩ : LSt U)))))) := by kernel_rfl
  exact e_.mpr (by intro y_1 y_2 y_3; have hh := h y_1 rfl y_2 rfl y_3 rfl; exact ⟨hh.1, ⟨id, id, hh.2.1, id, id, id, (by generalize ((((Edit.ops (nrmE (turnE y_2))).length : Int) : Int) == 2) = b0; revert b0; decide), id, id, hh.2.2.1, id, id, id, (by generalize (((OpOf.kind y_3) : Int) == 1) = b0; generalize ((((Edit.ops (nrmE (turnE y_2))).length : Int) : Int) == 2) = b1; revert b0 b1; decide), hh.2.2.2⟩⟩)
def Body44  : Prop := awp cfg (know (know44)) (drawOk cfg (know (know44))) Try.f44.ntmps lv44 (cd Try.f44 []) (entry (args44.can (())) []) (EndsQ cfg Try.f44.ntmps Try.f44.results.toList (res44 (())) [])
theorem make44 (c45 : Contract Try.prog cfg 45 spec45) (hb : ∀ (_ : Unit), pre44 (()) → Body44 ) : Contract Try.prog cfg 44 spec44 :=
  contract_flat (l := [(45, spec45)]) cfgOk rfl (⟨c45, trivial⟩) lv44 Try.func44 rfl rfl 0 (fun _ => rfl) (by decide) (fun _ => hb  ())
end Go.AM.Ytlahjnelghpmeaa

namespace Go.AM.Ytlahjnelghpmeaa
open Go.AM Go.Proofs
mutual
theorem massE_turn : ∀ (e : Edit), massE (turnE e) = massE e
  | .mk k o n w ks l os => by
    have h1 := massKs_turn ks
    have h2 := massOs_turn os
    simp only [turnE, massE, List.length_map, turnOs_len, h1, h2]
    omega
theorem massKs_turn : ∀ (ks : List (KidOf Edit)), massKs (turnKs ks) = massKs ks
  | [] => rfl
  | k :: r => by
    have h1 := massKid_turn k
    have h2 := massKs_turn r
    simp only [turnKs, massKs, h1, h2]
theorem massKid_turn : ∀ (k : KidOf Edit), massKid (turnKid k) = massKid k
  | ⟨a, e⟩ => by
    have h := massE_turn e
    simp only [turnKid, massKid, h]
theorem massOs_turn : ∀ (os : List (OpOf Edit)), massOs (turnOs os) = massOs os
  | [] => rfl
  | o :: r => by
    have h1 := massOp_turn o
    have h2 := massOs_turn r
    simp only [turnOs, massOs, h1, h2]
theorem massOp_turn : ∀ (o : OpOf Edit), massOp (turnOp o) = massOp o
  | ⟨k, n, l, e⟩ => by
    have h := massE_turn e
    simp only [turnOp]
    split
    · rfl
    · split
      · rfl
      · split
        · simp only [massOp, h]
        · rfl
end
theorem c45 : Contract Try.prog cfg 45 spec45 := by
  refine make45 c40_76.1 c79_110.1 ?_
  intro e _ hp
  simp only [pre45] at hp
  obtain ⟨hm, d, hr⟩ := hp
  refine vc45 _ _ ?_
  rintro y1 hy1 y2 hy2
  subst hy1
  have h1 := massE_turn y1
  have h2 := rightE_turn _ _ hr
  rw [← hy2] at h1 h2
  refine ⟨by simp only [pre79]; omega, by simp only [pre40]; exact ⟨by omega, d, h2⟩, ?_⟩
  simp only [res45]
  rw [← hy2]
  (repeat' (first | exact trivial | exact rfl | apply And.intro))
theorem c44 : Contract Try.prog cfg 44 spec44 := by
  refine make44 c45 ?_
  intro _ _
  refine vc44 _ ?_
  rintro y1 hy1 y2 hy2 y3 hy3
  have e2 : Edit.ops (nrmE (turnE y2)) = [⟨1, 0, [Tree.mk 10 [1] []], Edit.nil⟩, ⟨0, 1, [], Edit.nil⟩] := by
    rw [hy2, hy1]
    rfl
  rw [e2] at hy3 ⊢
  have k3 : y3.kind = 1 := by rw [hy3]; rfl
  rw [k3]
  refine ⟨?_, ?_, ?_, ends_bool rfl rfl⟩
  · rw [hy2, hy1]
    simp only [pre45]
    exact ⟨by decide, 64, by rfl⟩
  all_goals simp
end Go.AM.Ytlahjnelghpmeaa

namespace Go.AM.Ytlahjnelghpmeaa
open Go.AM Go.Proofs
def args63 : ArgL (Tree × Unit) := (.cons (aEl .tree) .nil)
def pre63 (a : Tree × Unit) : Prop := small a.1 ∧ rng a.1
noncomputable def res63 (a : Tree × Unit) : V U := .c (.bool (goodT a.1))
noncomputable def spec63 : Fs U := fs args63 (fun a => [pre63 a]) res63
def args19 : ArgL (Edit × Tree × Unit) := (.cons (aEl .edit) (.cons (aEl .tree) .nil))
def pre19 (a : Edit × Tree × Unit) : Prop := (smallE a.1 ∧ rngE a.1) ∧ small a.2.1 ∧ rng a.2.1
noncomputable def res19 (a : Edit × Tree × Unit) : V U := .c (.bool true)
noncomputable def spec19 : Fs U := fs args19 (fun a => [pre19 a]) res19
noncomputable def know63 : List (FuncId × Fs U) := [(29, spec29), (47, spec47)]
def lv63 : Lives U := fun i => match i with
  | 0 => ([(1, [])], [((.loc 1), [])])
  | 1 => ([(2, [])], [])
  | _ => ([], [])
noncomputable abbrev A63 (p : List Nat) := awp cfg (know know63) (drawOk cfg (know know63)) Try.f63.ntmps lv63 (cd Try.f63 p)
theorem vc63 (t : Tree) (Q : AExit → LSt U → Prop) (h : ((pre29 ((Tree.mk (Tree.kind t) (Tree.words t) (Tree.kids t)), ())) ∧ (Tr ((decide (0 ≤ shallow (Tree.mk (Tree.kind t) (Tree.words t) (Tree.kids t)) 80 3000)) = true)) ∧ ((decide (0 ≤ shallow (Tree.mk (Tree.kind t) (Tree.words t) (Tree.kids t)) 80 3000)) = true → pre47 ((Tree.mk (Tree.kind t) (Tree.words t) (Tree.kids t)), 64, ())) ∧ ((Tr ((decide (0 ≤ shallow (Tree.mk (Tree.kind t) (Tree.words t) (Tree.kids t)) 80 3000)) = true))) ∧ (Tr ((bif (decide (0 ≤ shallow (Tree.mk (Tree.kind t) (Tree.words t) (Tree.kids t)) 80 3000)) then (rightT (Tree.mk (Tree.kind t) (Tree.words t) (Tree.kids t)) 64) else false) = true)) ∧ (Tr ((bif (decide (0 ≤ shallow (Tree.mk (Tree.kind t) (Tree.words t) (Tree.kids t)) 80 3000)) then (rightT (Tree.mk (Tree.kind t) (Tree.words t) (Tree.kids t)) 64) else false) = true)) ∧ ((Tr ((bif (decide (0 ≤ shallow (Tree.mk (Tree.kind t) (Tree.words t) (Tree.kids t)) 80 3000)) then (rightT (Tree.mk (Tree.kind t) (Tree.words t) (Tree.kids t)) 64) else false) = true))) ∧ (Q .ret (⟨[(2, .c (.bool (bif (bif (decide (0 ≤ shallow (Tree.mk (Tree.kind t) (Tree.words t) (Tree.kids t)) 80 3000)) then (rightT (Tree.mk (Tree.kind t) (Tree.words t) (Tree.kids t)) 64) else false) then (((Tree.kind t) : Int) != 10) else false)))], [], []⟩ : LSt U)))) :
    A63 [] (⟨[(0, .agg [.int .i64 (Tree.kind t), .slice (U := U) .u64 (Tree.words t) .unk, .slice (U := U) .tree (Tree.kids t) .unk])], [], []⟩ : LSt U) Q :=
  Eq.mpr (by kernel_rfl) h
def Body63 (t : Tree)  : Prop := awp cfg (know (know63)) (drawOk cfg (know (know63))) Try.f63.ntmps lv63 (cd Try.f63 []) (entry (args63.can (t, ())) []) (EndsQ cfg Try.f63.ntmps Try.f63.results.toList (res63 (t, ())) [])
theorem make63 (c29 : Contract Try.prog cfg 29 spec29) (c47 : Contract Try.prog cfg 47 spec47) (hb : ∀ (t : Tree) (_ : Unit), pre63 (t, ()) → Body63 t) : Contract Try.prog cfg 63 spec63 :=
  contract_flat (l := [(29, spec29), (47, spec47)]) cfgOk rfl (⟨c29, c47, trivial⟩) lv63 Try.func63 rfl rfl 1 (fun _ => rfl) (by decide) (fun ⟨t, _⟩ => hb t ())
noncomputable def know19 : List (FuncId × Fs U) := [(31, spec31), (33, spec33), (37, spec37), (44, spec44), (45, spec45), (52, spec52), (63, spec63)]
def lv19 : Lives U := fun i => match i with
  | 0 => ([(2, []), (3, [])], [((.loc 2), []), ((.loc 3), [])])
  | 1 => ([(2, []), (3, []), (21, [])], [((.loc 2), []), ((.loc 3), [])])
  | 2 => ([(4, [])], [])
  | 3 => ([(2, []), (3, []), (5, [])], [((.loc 2), []), ((.loc 3), []), ((.loc 5), [])])
  | 4 => ([(2, []), (3, []), (5, []), (6, []), (7, [])], [((.loc 2), []), ((.loc 3), []), ((.loc 5), []), ((.loc 6), [])])
  | 5 => ([(2, []), (3, []), (5, []), (6, []), (35, [])], [((.loc 2), []), ((.loc 3), []), ((.loc 5), []), ((.loc 6), [])])
  | 6 => ([(2, []), (3, []), (5, []), (8, []), (9, [])], [((.loc 2), []), ((.loc 3), []), ((.loc 5), []), ((.loc 8), [])])
  | 7 => ([(2, []), (3, []), (5, []), (50, [])], [((.loc 2), []), ((.loc 3), []), ((.loc 5), [])])
  | 8 => ([(4, [])], [])
  | 9 => ([(2, []), (3, []), (10, []), (11, [])], [((.loc 2), []), ((.loc 3), []), ((.loc 10), [])])
  | 10 => ([(2, []), (3, []), (10, []), (61, [])], [((.loc 2), []), ((.loc 3), []), ((.loc 10), [])])
  | 11 => ([(3, []), (12, []), (13, [])], [((.loc 3), []), ((.loc 12), [])])
  | 12 => ([(76, [])], [])
  | 13 => ([(4, [])], [])
  | 14 => ([(4, [])], [])
  | _ => ([], [])
noncomputable abbrev A19 (p : List Nat) := awp cfg (know know19) (drawOk cfg (know know19)) Try.f19.ntmps lv19 (cd Try.f19 p)
theorem vc19 (e : Edit) (t : Tree) (Q : AExit → LSt U → Prop) (h : ∀ y_1, y_1 = (e) → ∀ y_2, y_2 = (t) → ∀ y_3, y_3 = ((normT y_2)) → ∀ y_4, y_4 = ((nrmE (turnE y_1))) → ∀ y_5, y_5 = ((orNil ((doE false y_1 y_2).map normT))) → ∀ y_6, y_6 = ((orNil ((doE false y_4 y_2).map normT))) → ∀ y_7, y_7 = ((orNil ((doE false y_4 y_5).map normT))) → ∀ y_8, y_8 = ((orNil ((doE false y_1 y_6).map normT))) → ((pre63 (y_2, ())) ∧ (Tr ((!(!(goodT y_2))) = true)) ∧ ((!(!(goodT y_2))) = true → pre37 (y_1, ())) ∧ (Tr ((!(!(goodT y_2))) = true)) ∧ (((!(goodT y_2)) = false → (!(!(goodT y_2))) = true)) ∧ (((bif (!(goodT y_2)) then true else (!(good y_1))) = true → (pre44 (())) ∧ (Q .ret (⟨[(4, .c (.bool true))], [], []⟩ : LSt U))) ∧ ((bif (!(goodT y_2)) then true else (!(good y_1))) = false → (pre45 (y_1, ())) ∧ ((pre52 (y_1, y_2, ())) ∧ ((Tr (((doE false y_1 y_2).isSome) = true)) ∧ (((doE false y_1 y_2).isSome) = true → pre63 (y_5, ())) ∧ ((Tr (((doE false y_1 y_2).isSome) = true))) ∧ (((bif ((doE false y_1 y_2).isSome) then (goodT y_5) else false) = true → (pre52 (y_4, y_5, ())) ∧ ((Tr ((!(!((doE false y_4 y_5).isSome))) = true)) ∧ ((!(!((doE false y_4 y_5).isSome))) = true → pre31 (y_2, ())) ∧ (Tr ((!(!((doE false y_4 y_5).isSome))) = true)) ∧ (Tr ((!(!((doE false y_4 y_5).isSome))) = true)) ∧ ((!(!((doE false y_4 y_5).isSome))) = true → pre33 (y_7, y_3, ())) ∧ (Tr ((!(!((doE false y_4 y_5).isSome))) = true)) ∧ (((!((doE false y_4 y_5).isSome)) = false → (!(!((doE false y_4 y_5).isSome))) = true)) ∧ (((bif (!((doE false y_4 y_5).isSome)) then true else (!(sameT y_7 y_3))) = true → (Q .ret (⟨[(4, .c (.bool false))], [], []⟩ : LSt U))) ∧ ((bif (!((doE false y_4 y_5).isSome)) then true else (!(sameT y_7 y_3))) = false → (pre52 (y_4, y_2, ())) ∧ ((Tr (((doE false y_4 y_2).isSome) = true)) ∧ (((doE false y_4 y_2).isSome) = true → pre63 (y_6, ())) ∧ ((Tr (((doE false y_4 y_2).isSome) = true))) ∧ (((bif ((doE false y_4 y_2).isSome) then (goodT y_6) else false) = true → (pre52 (y_1, y_6, ())) ∧ ((Tr ((!(!((doE false y_1 y_6).isSome))) = true)) ∧ ((!(!((doE false y_1 y_6).isSome))) = true → pre31 (y_2, ())) ∧ (Tr ((!(!((doE false y_1 y_6).isSome))) = true)) ∧ (Tr ((!(!((doE false y_1 y_6).isSome))) = true)) ∧ ((!(!((doE false y_1 y_6).isSome))) = true → pre33 (y_8, y_3, ())) ∧ (Tr ((!(!((doE false y_1 y_6).isSome))) = true)) ∧ (((!((doE false y_1 y_6).isSome)) = false → (!(!((doE false y_1 y_6).isSome))) = true)) ∧ (((bif (!((doE false y_1 y_6).isSome)) then true else (!(sameT y_8 y_3))) = true → (Q .ret (⟨[(4, .c (.bool false))], [], []⟩ : LSt U))) ∧ ((bif (!((doE false y_1 y_6).isSome)) then true else (!(sameT y_8 y_3))) = false → (pre44 (())) ∧ (Q .ret (⟨[(4, .c (.bool true))], [], []⟩ : LSt U)))))) ∧ ((bif ((doE false y_4 y_2).isSome) then (goodT y_6) else false) = false → (pre44 (())) ∧ (Q .ret (⟨[(4, .c (.bool true))], [], []⟩ : LSt U))))))))) ∧ ((bif ((doE false y_1 y_2).isSome) then (goodT y_5) else false) = false → (pre52 (y_4, y_2, ())) ∧ ((Tr (((doE false y_4 y_2).isSome) = true)) ∧ (((doE false y_4 y_2).isSome) = true → pre63 (y_6, ())) ∧ ((Tr (((doE false y_4 y_2).isSome) = true))) ∧ (((bif ((doE false y_4 y_2).isSome) then (goodT y_6) else false) = true → (pre52 (y_1, y_6, ())) ∧ ((Tr ((!(!((doE false y_1 y_6).isSome))) = true)) ∧ ((!(!((doE false y_1 y_6).isSome))) = true → pre31 (y_2, ())) ∧ (Tr ((!(!((doE false y_1 y_6).isSome))) = true)) ∧ (Tr ((!(!((doE false y_1 y_6).isSome))) = true)) ∧ ((!(!((doE false y_1 y_6).isSome))) = true → pre33 (y_8, y_3, ())) ∧ (Tr ((!(!((doE false y_1 y_6).isSome))) = true)) ∧ (((!((doE false y_1 y_6).isSome)) = false → (!(!((doE false y_1 y_6).isSome))) = true)) ∧ (((bif (!((doE false y_1 y_6).isSome)) then true else (!(sameT y_8 y_3))) = true → (Q .ret (⟨[(4, .c (.bool false))], [], []⟩ : LSt U))) ∧ ((bif (!((doE false y_1 y_6).isSome)) then true else (!(sameT y_8 y_3))) = false → (pre44 (())) ∧ (Q .ret (⟨[(4, .c (.bool true))], [], []⟩ : LSt U)))))) ∧ ((bif ((doE false y_4 y_2).isSome) then (goodT y_6) else false) = false → (pre44 (())) ∧ (Q .ret (⟨[(4, .c (.bool true))], [], []⟩ : LSt U))))))))))))) :
    A19 [] (⟨[(0, .agg [.int .i64 (Edit.kind e), .int .i64 (Tree.kind (Edit.old e)), .slice (U := U) .u64 (Tree.words (Edit.old e)) .unk, .slice (U := U) .tree (Tree.kids (Edit.old e)) .unk, .int .i64 (Tree.kind (Edit.new e)), .slice (U := U) .u64 (Tree.words (Edit.new e)) .unk, .slice (U := U) .tree (Tree.kids (Edit.new e)) .unk, .slice (U := U) .wedit (Edit.words e) .unk, .slice (U := U) .kid (Edit.kids e) .unk, .int .i64 (Edit.list e), .slice (U := U) .op (Edit.ops e) .unk]), (1, .agg [.int .i64 (Tree.kind t), .slice (U := U) .u64 (Tree.words t) .unk, .slice (U := U) .tree (Tree.kids t) .unk])], [], []⟩ : LSt U) Q :=
  Eq.mpr (by kernel_rfl) (h _ (reEdit_eq _) _ (reTree_eq _) _ (reTree_eq _) _ (reEdit_eq _) _ (reTree_eq _) _ (reTree_eq _) _ (reTree_eq _) _ (reTree_eq _))
def Body19 (e : Edit) (t : Tree)  : Prop := awp cfg (know (know19)) (drawOk cfg (know (know19))) Try.f19.ntmps lv19 (cd Try.f19 []) (entry (args19.can (e, t, ())) []) (EndsQ cfg Try.f19.ntmps Try.f19.results.toList (res19 (e, t, ())) [])
theorem make19 (c31 : Contract Try.prog cfg 31 spec31) (c33 : Contract Try.prog cfg 33 spec33) (c37 : Contract Try.prog cfg 37 spec37) (c44 : Contract Try.prog cfg 44 spec44) (c45 : Contract Try.prog cfg 45 spec45) (c52 : Contract Try.prog cfg 52 spec52) (c63 : Contract Try.prog cfg 63 spec63) (hb : ∀ (e : Edit) (t : Tree) (_ : Unit), pre19 (e, t, ()) → Body19 e t) : Contract Try.prog cfg 19 spec19 :=
  contract_flat (l := [(31, spec31), (33, spec33), (37, spec37), (44, spec44), (45, spec45), (52, spec52), (63, spec63)]) cfgOk rfl (⟨c31, c33, c37, c44, c45, c52, c63, trivial⟩) lv19 Try.func19 rfl rfl 2 (fun _ => rfl) (by decide) (fun ⟨e, t, _⟩ => hb e t ())
end Go.AM.Ytlahjnelghpmeaa

namespace Go.AM.Ytlahjnelghpmeaa
open Go.AM Go.Proofs
theorem c63 : Contract Try.prog cfg 63 spec63 := by
  refine make63 c29 c47 ?_
  intro t _ hp
  simp only [pre63] at hp
  refine vc63 _ _ ?_
  (simp only [Tree.eta, Edit.eta, Tree.kind_mk, Tree.words_mk, Tree.kids_mk])
  (simp only [vcT, bif_tl, bif_fr, bif_tlf, bif_frf, Bool.not_eq_true', Bool.not_eq_false', decide_eq_true_eq, decide_eq_false_iff_not, beq_iff_eq, beq_eq_false_iff_ne, bne_iff_ne, ne_eq, bne_eq_false_iff_eq, Bool.or_eq_true, Bool.and_eq_true, Bool.or_eq_false_iff, Bool.and_eq_false_imp])
  refine ⟨by simp only [pre29]; exact hp.1, fun h => by simp only [pre47]; exact ⟨few_mass' h, hp.2, by omega, by omega⟩, ends_bool rfl ?_⟩
  unfold goodT
  rw [Bool.eq_iff_iff]
  simp only [bif_fr, Bool.and_eq_true, decide_eq_true_eq, bne_iff_ne]
mutual
theorem small_of_mass : ∀ t : Tree, mass t ≤ 17592186044416 → small t
  | .mk k w ks, h => by
    simp only [mass] at h
    have := massK_len ks
    exact ⟨by omega, by omega, smallK_of_mass ks (by omega)⟩
theorem smallK_of_mass : ∀ l : List Tree, massK l ≤ 17592186044416 → smallK l
  | [], _ => trivial
  | t :: r, h => by
    simp only [massK] at h
    exact ⟨small_of_mass t (by omega), smallK_of_mass r (by omega)⟩
end
theorem rng_orNil {e : Edit} {t : Tree} (he : rngE e) (ht : rng t) : rng (orNil ((doE false e t).map normT)) := by
  cases h : doE false e t with
  | none => exact rng_nilT'
  | some u => exact rng_norm _ (rng_do false e t u he ht h)
theorem mass_orNil {e : Edit} {t : Tree} (he : massE e ≤ 1000000) (hr : ∃ d, rightE e d = true) (ht : mass t ≤ 100000000000) : mass (orNil ((doE false e t).map normT)) ≤ 1000000000000 := by
  rw [orNil_norm]
  exact Nat.le_trans (normT_mass _) (orNil_mass he hr ht)
theorem c19 : Contract Try.prog cfg 19 spec19 := by
  refine make19 c31 c33 c37 c44 c45 c52 c63 ?_
  intro e t _ hp
  simp only [pre19] at hp
  refine vc19 _ _ _ ?_
  rintro y1 hy1 y2 hy2 y3 hy3 y4 hy4 y5 hy5 y6 hy6 y7 hy7 y8 hy8
  subst hy1 hy2
  (simp only [vcT, bif_tl, bif_fr, bif_tlf, bif_frf, Bool.not_eq_true', Bool.not_eq_false', decide_eq_true_eq, decide_eq_false_iff_not, beq_iff_eq, beq_eq_false_iff_ne, bne_iff_ne, ne_eq, bne_eq_false_iff_eq, Bool.or_eq_true, Bool.and_eq_true, Bool.or_eq_false_iff, Bool.and_eq_false_imp])
  refine ⟨by simp only [pre63]; exact hp.2, fun _ => by simp only [pre37]; exact hp.1, fun _ => ⟨trivial, ends_bool rfl rfl⟩, fun hg => ?_⟩
  obtain ⟨g1, g2⟩ := hg
  obtain ⟨m2, rt2, _⟩ := goodT_in g1 hp.2.2
  obtain ⟨hm, hr⟩ := good_in' g2
  have P := pre52_of g2 hp.1.2 m2 hp.2.2
  have rt := rightE_turn _ _ hr
  have gt := rngE_turn y1 hp.1.2
  have mt := massE_turn y1
  have r4 : rightE y4 64 = true := by rw [hy4]; exact rightE_nrm _ _ rt
  have n4 : rngE y4 := by rw [hy4]; exact rngE_nrm' _ _ rt gt
  have m4 : massE y4 ≤ 3000 := by rw [hy4]; have := massE_nrm (turnE y1); omega
  have P4 : ∀ t : Tree, mass t ≤ 1000000 → rng t → (massE y4 ≤ 1000000 ∧ rngE y4 ∧ ∃ d, rightE y4 d = true) ∧ mass t ≤ 100000000000 ∧ rng t := fun t h1 h2 => ⟨⟨by omega, n4, 64, r4⟩, by omega, h2⟩
  have P1 : ∀ t : Tree, mass t ≤ 1000000 → rng t → (massE y1 ≤ 1000000 ∧ rngE y1 ∧ ∃ d, rightE y1 d = true) ∧ mass t ≤ 100000000000 ∧ rng t := fun t h1 h2 => ⟨⟨by omega, hp.1.2, 64, hr⟩, by omega, h2⟩
  have g5 : rng y5 := by rw [hy5]; exact rng_orNil hp.1.2 hp.2.2
  have g6 : rng y6 := by rw [hy6]; exact rng_orNil n4 hp.2.2
  have m5 : mass y5 ≤ 1000000000000 := by rw [hy5]; exact mass_orNil P.1.1 P.1.2.2 P.2.1
  have m6 : mass y6 ≤ 1000000000000 := by rw [hy6]; exact mass_orNil (by omega) ⟨64, r4⟩ P.2.1
  have m3 : mass y3 ≤ 1000000 := by rw [hy3]; have := normT_mass y2; omega
  -- there and back
  have back1 : (doE false y1 y2).isSome = true → goodT y5 = true → (doE false y4 y5).isSome = true ∧ y7 = y3 := by
    intro h1 h2
    obtain ⟨u, hu⟩ := Option.isSome_iff_exists.1 h1
    obtain ⟨_, rt5, _⟩ := goodT_in h2 g5
    obtain ⟨v, hv, he⟩ := turn_do y1 64 y2 u hr hp.1.2 rt2 hu
    have e5 : y5 = normT u := by rw [hy5, hu]; rfl
    have q1 := nrm_do (turnE y1) 64 y5 rt rt5
    have q2 := doE_eqv (turnE y1) 64 y5 u rt (by rw [e5]; exact normT_idem u)
    rw [hv] at q2
    rw [← hy4] at q1
    have q3 := OptR.trans' (R := Eqv) (fun _ _ _ p q => Eq.trans p q) q1 q2
    refine ⟨by rw [q3.isSome]; rfl, ?_⟩
    rw [hy7, q3.normed, hy3]
    exact he
  have back2 : (doE false y4 y2).isSome = true → goodT y6 = true → (doE false y1 y6).isSome = true ∧ y8 = y3 := by
    intro h1 h2
    obtain ⟨u, hu⟩ := Option.isSome_iff_exists.1 h1
    have q1 := nrm_do (turnE y1) 64 y2 rt rt2
    rw [← hy4, hu] at q1
    cases hw : doE false (turnE y1) y2 with
    | none => rw [hw] at q1; exact q1.elim
    | some w =>
      rw [hw] at q1
      obtain ⟨v, hv, he⟩ := turn_do (turnE y1) 64 y2 w rt gt rt2 hw
      rw [turn_turn] at hv
      have e6 : y6 = normT u := by rw [hy6, hu]; rfl
      have q2 := doE_eqv y1 64 y6 w hr (by rw [e6]; exact Eq.trans (normT_idem u) q1)
      rw [hv] at q2
      refine ⟨by rw [q2.isSome]; rfl, ?_⟩
      rw [hy8, q2.normed, hy3]
      exact he
  have m7 : goodT y5 = true → mass y7 ≤ 1000000000000 := fun h => by
    obtain ⟨mm, _, _⟩ := goodT_in h g5
    rw [hy7]; exact mass_orNil (by omega) ⟨64, r4⟩ (by omega)
  have m8 : goodT y6 = true → mass y8 ≤ 1000000000000 := fun h => by
    obtain ⟨mm, _, _⟩ := goodT_in h g6
    rw [hy8]; exact mass_orNil (by omega) ⟨64, hr⟩ (by omega)
  have t1 : EndsQ cfg Try.f19.ntmps Try.f19.results.toList (res19 (y1, y2, ())) [] .ret (⟨[(4, .c (.bool true))], [], []⟩ : LSt U) := ends_bool rfl rfl
  have p31 : pre31 (y2, ()) := by simp only [pre31]; omega
  have p44 : pre44 () := trivial
  have p42 : pre52 (y4, y2, ()) := P4 y2 m2 hp.2.2
  have p5 : pre63 (y5, ()) := ⟨small_of_mass y5 (by omega), g5⟩
  have p6 : pre63 (y6, ()) := ⟨small_of_mass y6 (by omega), g6⟩
  have half := And.intro p42 (And.intro (fun (_ : (doE false y4 y2).isSome = true) => p6) (And.intro
    (fun (h : (doE false y4 y2).isSome = true ∧ goodT y6 = true) => And.intro (show pre52 (y1, y6, ()) from P1 y6 (goodT_in h.2 g6).1 g6) (And.intro (fun (_ : (doE false y1 y6).isSome = true) => p31) (And.intro (fun (_ : (doE false y1 y6).isSome = true) => show pre33 (y8, y3, ()) from m8 h.2)
      (And.intro (fun (x : (doE false y1 y6).isSome = false ∨ sameT y8 y3 = false) => show EndsQ cfg Try.f19.ntmps Try.f19.results.toList (res19 (y1, y2, ())) [] .ret (⟨[(4, .c (.bool false))], [], []⟩ : LSt U) by
          obtain ⟨b1, b2⟩ := back2 h.1 h.2
          rw [b1, b2, sameT_self] at x
          simp at x)
        (fun (_ : (doE false y1 y6).isSome = true ∧ sameT y8 y3 = true) => And.intro p44 t1)))))
    (fun (_ : (doE false y4 y2).isSome = false ∨ goodT y6 = false) => And.intro p44 t1)))
  refine ⟨by simp only [pre45]; exact ⟨by omega, 64, hr⟩, by simp only [pre52]; exact P, fun _ => p5, fun h => ⟨P4 y5 (goodT_in h.2 g5).1 g5, fun _ => p31, fun _ => m7 h.2, fun x => ?_, fun _ => half⟩, fun _ => half⟩
  obtain ⟨b1, b2⟩ := back1 h.1 h.2
  rw [b1, b2, sameT_self] at x
  simp at x
end Go.AM.Ytlahjnelghpmeaa
