import Derived.Test.YtlahjnelghpmeaaL22
import Derived.Test.YtlahjnelghpmeaaB22d
set_option linter.unusedSimpArgs false
set_option linter.unusedVariables false
namespace Go.AM.Ytlahjnelghpmeaa
open Go.AM Go.Proofs
abbrev TrG22e (p : Prop) : Prop := p → p
noncomputable section
def args41 : ArgL (Edit × Unit) := (.cons (aEl .edit) .nil)
def pre41 (a : Edit × Unit) : Prop := massE a.1 ≤ 1000000 ∧ ∃ d, rightE a.1 d = true
def mu41 (a : Edit × Unit) : Nat := 2 * massE a.1
noncomputable def res41 (a : Edit × Unit) : V U := .agg [.int .i64 (Edit.kind (nrmE a.1)), .int .i64 (Tree.kind (Edit.old (nrmE a.1))), .slice (U := U) .u64 (Tree.words (Edit.old (nrmE a.1))) .unk, .slice (U := U) .tree (Tree.kids (Edit.old (nrmE a.1))) .unk, .int .i64 (Tree.kind (Edit.new (nrmE a.1))), .slice (U := U) .u64 (Tree.words (Edit.new (nrmE a.1))) .unk, .slice (U := U) .tree (Tree.kids (Edit.new (nrmE a.1))) .unk, .slice (U := U) .wedit (Edit.words (nrmE a.1)) .unk, .slice (U := U) .kid (Edit.kids (nrmE a.1)) .unk, .int .i64 (Edit.list (nrmE a.1)), .slice (U := U) .op (Edit.ops (nrmE a.1)) .unk]
noncomputable def spec41 : Fs U := fs args41 (fun a => [pre41 a]) res41
def args78 : ArgL (Int × List Op × Unit) := (.cons (aInt .i64) (.cons (aSl .op) .nil))
def pre78 (a : Int × List Op × Unit) : Prop := massOs a.2.1 ≤ 1000000 ∧ ∀ o ∈ a.2.1, ∃ d, rightOp a.1 o d = true
def mu78 (a : Int × List Op × Unit) : Nat := 2 * massOs a.2.1 + 1
noncomputable def res78 (a : Int × List Op × Unit) : V U := .c (.slice (U := U) .op ((flushW (nrmOs a.1 a.2.1 (Wst.mk [] [] []))).out) .unk)
noncomputable def spec78 : Fs U := fs args78 (fun a => [pre78 a]) res78
noncomputable def know41 (N : Nat) : List (FuncId × Fs U) := (41, fs args41 (fun a => [pre41 a, mu41 a < N]) res41) :: (78, fs args78 (fun a => [pre78 a, mu78 a < N]) res78) :: [(31, spec31), (108, spec108), (109, spec1109)]
def lv41 : Lives U := fun i => match i with
  | 0 => ([(1, []), (2, [])], [((.loc 1), []), ((.loc 2), [])])
  | 1 => ([(1, []), (2, []), (6, [])], [((.loc 1), []), ((.loc 2), [])])
  | 2 => ([(1, []), (2, []), (6, []), (7, [])], [((.loc 1), []), ((.loc 2), [])])
  | 3 => ([(2, [])], [((.loc 2), [])])
  | 4 => ([(1, []), (2, []), (6, []), (16, [])], [((.loc 1), []), ((.loc 2), [])])
  | 5 => ([(1, []), (2, []), (3, [])], [((.loc 1), []), ((.loc 2), []), ((.loc 3), [])])
  | 6 => ([(1, []), (2, []), (3, [])], [((.loc 1), []), ((.loc 2), []), ((.loc 3), [])])
  | 7 => ([(1, []), (2, []), (3, []), (4, [])], [((.loc 1), []), ((.loc 2), []), ((.loc 3), [.any, .any, .any, .any, .any, .any, .any, .any, .own .kid])])
  | 8 => ([(1, []), (2, []), (3, []), (4, []), (29, [])], [((.loc 1), []), ((.loc 2), []), ((.loc 3), [])])
  | 9 => ([(1, []), (2, []), (3, []), (4, [])], [((.loc 1), []), ((.loc 2), []), ((.loc 3), [.any, .any, .any, .any, .any, .any, .any, .any, .own .kid])])
  | 10 => ([(1, []), (2, []), (3, []), (4, [])], [((.loc 1), []), ((.loc 2), []), ((.loc 3), [])])
  | 11 => ([(2, [])], [((.loc 2), [])])
  | 12 => ([(1, []), (2, []), (52, [])], [((.loc 1), []), ((.loc 2), [])])
  | 13 => ([(2, [])], [((.loc 2), [])])
  | 14 => ([(2, [])], [((.loc 2), [])])
  | _ => ([], [])
def head41_0 (e : Edit) (x4 : Int) (ml3_8 : List Kid) : LSt U := (⟨[(1, .ptr (.loc 1) 0), (2, .ptr (.loc 2) 0), (3, .ptr (.loc 3) 0), (4, .c (.int .i64 x4))], [((.loc 1), [.int .i64 (Edit.kind e), .int .i64 (Tree.kind (Edit.old e)), .slice (U := U) .u64 (Tree.words (Edit.old e)) .unk, .slice (U := U) .tree (Tree.kids (Edit.old e)) .unk, .int .i64 (Tree.kind (Edit.new e)), .slice (U := U) .u64 (Tree.words (Edit.new e)) .unk, .slice (U := U) .tree (Tree.kids (Edit.new e)) .unk, .slice (U := U) .wedit (Edit.words e) .unk, .slice (U := U) .kid (Edit.kids e) .unk, .int .i64 (Edit.list e), .slice (U := U) .op (Edit.ops e) .unk]), ((.loc 2), [.int .i64 0, .int .i64 0, .nils, .nils, .int .i64 0, .nils, .nils, .nils, .nils, .int .i64 0, .nils]), ((.loc 3), [.int .i64 2, .int .i64 0, .nils, .nils, .int .i64 0, .nils, .nils, .slice (U := U) .wedit (([] : List WEdit) ++ (Edit.words e)) (.own (.l 3 7)), .slice (U := U) .kid ml3_8 (.own (.l 3 8)), .int .i64 0, .nils])], []⟩ : LSt U)
abbrev W41 (N : Nat) (e : Edit) (Q : AExit → LSt U → Prop) := awp cfg (know (know41 N)) (drawOk cfg (know (know41 N))) Try.f41.ntmps lv41 (cd Try.f41 []) (⟨[(0, .agg [.int .i64 (Edit.kind e), .int .i64 (Tree.kind (Edit.old e)), .slice (U := U) .u64 (Tree.words (Edit.old e)) .unk, .slice (U := U) .tree (Tree.kids (Edit.old e)) .unk, .int .i64 (Tree.kind (Edit.new e)), .slice (U := U) .u64 (Tree.words (Edit.new e)) .unk, .slice (U := U) .tree (Tree.kids (Edit.new e)) .unk, .slice (U := U) .wedit (Edit.words e) .unk, .slice (U := U) .kid (Edit.kids e) .unk, .int .i64 (Edit.list e), .slice (U := U) .op (Edit.ops e) .unk])], [], []⟩ : LSt U) Q
abbrev a41_G22e (N : Nat) := awp cfg (know (know41 N)) (drawOk cfg (know (know41 N))) Try.f41.ntmps lv41
abbrev s41_G22e (N : Nat) := seqK cfg (know (know41 N)) (drawOk cfg (know (know41 N))) Try.f41.ntmps lv41
theorem vc41 (N : Nat) (e : Edit) (Q : AExit → LSt U → Prop) (h : ((((Edit.kind e) : Int) == 1) = true → (pre31 ((Tree.mk (Tree.kind (Edit.old e)) (Tree.words (Edit.old e)) (Tree.kids (Edit.old e))), ())) ∧ (pre31 ((Tree.mk (Tree.kind (Edit.new e)) (Tree.words (Edit.new e)) (Tree.kids (Edit.new e))), ())) ∧ (Q .ret (⟨[(2, .ptr (.loc 2) 0)], [((.loc 2), [.int .i64 1, .int .i64 (Tree.kind (normT (Tree.mk (Tree.kind (Edit.old e)) (Tree.words (Edit.old e)) (Tree.kids (Edit.old e))))), .slice (U := U) .u64 (Tree.words (normT (Tree.mk (Tree.kind (Edit.old e)) (Tree.words (Edit.old e)) (Tree.kids (Edit.old e))))) .unk, .slice (U := U) .tree (Tree.kids (normT (Tree.mk (Tree.kind (Edit.old e)) (Tree.words (Edit.old e)) (Tree.kids (Edit.old e))))) .unk, .int .i64 (Tree.kind (normT (Tree.mk (Tree.kind (Edit.new e)) (Tree.words (Edit.new e)) (Tree.kids (Edit.new e))))), .slice (U := U) .u64 (Tree.words (normT (Tree.mk (Tree.kind (Edit.new e)) (Tree.words (Edit.new e)) (Tree.kids (Edit.new e))))) .unk, .slice (U := U) .tree (Tree.kids (normT (Tree.mk (Tree.kind (Edit.new e)) (Tree.words (Edit.new e)) (Tree.kids (Edit.new e))))) .unk, .nils, .nils, .int .i64 0, .nils])], []⟩ : LSt U))) ∧ ((((Edit.kind e) : Int) == 1) = false → ((((Edit.kind e) : Int) == 2) = true → ((([] : List WEdit).length + (Edit.words e).length) * 32 ≤ 140737488355328) ∧ (LoopWp (awp cfg (know (know41 N)) (drawOk cfg (know (know41 N))) Try.f41.ntmps lv41 (cd Try.f41 [1, 0, 1, 0, 1, 1, 1, 0, 1, 1, 0, 1, 0, 0])) (head41_0 e 0 ([])) (AExit.inBlock 1 (seqK cfg (know (know41 N)) (drawOk cfg (know (know41 N))) Try.f41.ntmps lv41 (cd Try.f41 [1, 0, 1, 0, 1, 1, 1, 0, 1, 1, 1]) (AExit.inBlock 0 (seqK cfg (know (know41 N)) (drawOk cfg (know (know41 N))) Try.f41.ntmps lv41 (cd Try.f41 [1, 1]) Q)))))) ∧ ((((Edit.kind e) : Int) == 2) = false → ((((Edit.kind e) : Int) == 3) = true → (pre78 ((Edit.list e), (Edit.ops e), ())) ∧ (mu78 ((Edit.list e), (Edit.ops e), ()) < N) ∧ (Q .ret (⟨[(2, .ptr (.loc 2) 0)], [((.loc 2), [.int .i64 3, .int .i64 0, .nils, .nils, .int .i64 0, .nils, .nils, .nils, .nils, .int .i64 (Edit.list e), .slice (U := U) .op ((flushW (nrmOs (Edit.list e) (Edit.ops e) (Wst.mk [] [] []))).out) .unk])], []⟩ : LSt U))) ∧ ((((Edit.kind e) : Int) == 3) = false → Q .ret (⟨[(2, .ptr (.loc 2) 0)], [((.loc 2), [.int .i64 0, .int .i64 0, .nils, .nils, .int .i64 0, .nils, .nils, .nils, .nils, .int .i64 0, .nils])], []⟩ : LSt U))))) :
    W41 N e Q := by
  have e_ : (W41 N e Q) = (((((((Edit.kind e) == 1) = true → (pre31 ((Tree.mk (Tree.kind (Edit.old e)) (Tree.words (Edit.old e)) (Tree.kids (Edit.old e))), ())) ∧ (pre31 ((Tree.mk (Tree.kind (Edit.new e)) (Tree.words (Edit.new e)) (Tree.kids (Edit.new e))), ())) ∧ (Q .ret (⟨[(2, .ptr (.loc 2) 0)], [((.loc 2), [.int .i64 1, .int .i64 (Tree.kind (normT (Tree.mk (Tree.kind (Edit.old e)) (Tree.words (Edit.old e)) (Tree.kids (Edit.old e))))), .slice (U := U) .u64 (Tree.words (normT (Tree.mk (Tree.kind (Edit.old e)) (Tree.words (Edit.old e)) (Tree.kids (Edit.old e))))) .unk, .slice (U := U) .tree (Tree.kids (normT (Tree.mk (Tree.kind (Edit.old e)) (Tree.words (Edit.old e)) (Tree.kids (Edit.old e))))) .unk, .int .i64 (Tree.kind (normT (Tree.mk (Tree.kind (Edit.new e)) (Tree.words (Edit.new e)) (Tree.kids (Edit.new e))))), .slice (U := U) .u64 (Tree.words (normT (Tree.mk (Tree.kind (Edit.new e)) (Tree.words (Edit.new e)) (Tree.kids (Edit.new e))))) .unk, .slice (U := U) .tree (Tree.kids (normT (Tree.mk (Tree.kind (Edit.new e)) (Tree.words (Edit.new e)) (Tree.kids (Edit.new e))))) .unk, .nils, .nils, .int .i64 0, .nils])], []⟩ : LSt U))) ∧ (((Edit.kind e) == 1) = false → ((((Edit.kind e) == 2) = true → (((([] : List WEdit).length + (Edit.words e).length) * 32 ≤ 140737488355328) ∧ ((LoopWp (a41_G22e N (cd Try.f41 [1, 0, 1, 0, 1, 1, 1, 0, 1, 1, 0, 1, 0, 0])) (head41_0 e 0 ([])) (AExit.inBlock 1 (s41_G22e N (cd Try.f41 [1, 0, 1, 0, 1, 1, 1, 0, 1, 1, 1]) (AExit.inBlock 0 (s41_G22e N (cd Try.f41 [1, 1]) Q)))))))) ∧ (((Edit.kind e) == 2) = false → ((((Edit.kind e) == 3) = true → (pre78 ((Edit.list e), (Edit.ops e), ())) ∧ (mu78 ((Edit.list e), (Edit.ops e), ()) < N) ∧ (Q .ret (⟨[(2, .ptr (.loc 2) 0)], [((.loc 2), [.int .i64 3, .int .i64 0, .nils, .nils, .int .i64 0, .nils, .nils, .nils, .nils, .int .i64 (Edit.list e), .slice (U := U) .op ((flushW (nrmOs (Edit.list e) (Edit.ops e) (Wst.mk [] [] []))).out) .unk])], []⟩ : LSt U))) ∧ (((Edit.kind e) == 3) = false → (Q .ret (⟨[(2, .ptr (.loc 2) 0)], [((.loc 2), [.int .i64 0, .int .i64 0, .nils, .nils, .int .i64 0, .nils, .nils, .nils, .nils, .int .i64 0, .nils])], []⟩ : LSt U))))))))))) := by kernel_rfl
  exact e_.mpr ⟨fun c_1 => ⟨(h.1 c_1).1, (h.1 c_1).2.1, (h.1 c_1).2.2⟩, fun c_1 => ⟨fun c_2 => ⟨((h.2 c_1).1 c_2).1, ((h.2 c_1).1 c_2).2⟩, fun c_2 => ⟨fun c_3 => ⟨(((h.2 c_1).2 c_2).1 c_3).1, (((h.2 c_1).2 c_2).1 c_3).2.1, (((h.2 c_1).2 c_2).1 c_3).2.2⟩, fun c_3 => (((h.2 c_1).2 c_2).2 c_3)⟩⟩⟩
abbrev W41_l0 (N : Nat) (e : Edit) (x4 : Int) (ml3_8 : List Kid) (N0 : LSt U → Prop) (Q : AExit → LSt U → Prop) := awp cfg (know (know41 N)) (drawOk cfg (know (know41 N))) Try.f41.ntmps lv41 (cd Try.f41 [1, 0, 1, 0, 1, 1, 1, 0, 1, 1, 0, 1, 0, 0]) (head41_0 e x4 ml3_8) (AExit.then N0 (AExit.inBlock 1 (seqK cfg (know (know41 N)) (drawOk cfg (know (know41 N))) Try.f41.ntmps lv41 (cd Try.f41 [1, 0, 1, 0, 1, 1, 1, 0, 1, 1, 1]) (AExit.inBlock 0 (seqK cfg (know (know41 N)) (drawOk cfg (know (know41 N))) Try.f41.ntmps lv41 (cd Try.f41 [1, 1]) Q)))))
theorem vc41_l0 (N : Nat) (e : Edit) (x4 : Int) (ml3_8 : List Kid) (N0 : LSt U → Prop) (Q : AExit → LSt U → Prop) (h : ∀ y_1, y_1 = (List.getD (Edit.kids e) (Int.toNat x4) (KidOf.mk 0 Edit.nil)) → ∀ y_2, y_2 = ((KidOf.e y_1)) → ∀ y_3, y_3 = ((nrmE y_2)) → ((decide ((x4 : Int) < ((Edit.kids e).length : Int))) = true → ((0 : Int) ≤ x4 ∧ x4 < ((Edit.kids e).length : Int)) ∧ ((0 : Int) ≤ x4 ∧ x4 < ((Edit.kids e).length : Int)) ∧ (pre41 (y_2, ())) ∧ (mu41 (y_2, ()) < N) ∧ ((ml3_8.length + ([(KidOf.mk (KidOf.at_ y_1) y_3 : Kid)]).length) * 208 ≤ 140737488355328) ∧ ((InR ((x4 : Int) + 1)) ∧ (N0 (head41_0 e ((x4 : Int) + 1) (ml3_8 ++ ([(KidOf.mk (KidOf.at_ y_1) y_3 : Kid)])))))) ∧ ((decide ((x4 : Int) < ((Edit.kids e).length : Int))) = false → Q .ret (⟨[(2, .ptr (.loc 2) 0)], [((.loc 2), [.int .i64 2, .int .i64 0, .nils, .nils, .int .i64 0, .nils, .nils, .slice (U := U) .wedit (([] : List WEdit) ++ (Edit.words e)) (.own (.l 2 7)), .slice (U := U) .kid ml3_8 (.own (.l 2 8)), .int .i64 0, .nils])], []⟩ : LSt U))) :
    W41_l0 N e x4 ml3_8 N0 Q := by
  have e_ : (W41_l0 N e x4 ml3_8 N0 Q) = (let y_1 := (List.getD (Edit.kids e) (Int.toNat x4) (KidOf.mk 0 Edit.nil)); let y_2 := (reEdit (KidOf.e y_1)); let y_3 := (reEdit (nrmE y_2)); (((decide ((x4 : Int) < ((Edit.kids e).length : Int))) = true → ((0 : Int) ≤ x4 ∧ x4 < ((Edit.kids e).length : Int)) ∧ ((0 : Int) ≤ x4 ∧ x4 < ((Edit.kids e).length : Int)) ∧ (pre41 (y_2, ())) ∧ (mu41 (y_2, ()) < N) ∧ ((ml3_8.length + ([(KidOf.mk (KidOf.at_ y_1) y_3 : Kid)]).length) * 208 ≤ 140737488355328) ∧ ((InR ((x4 : Int) + 1)) ∧ (N0 (head41_0 e ((x4 : Int) + 1) (ml3_8 ++ ([(KidOf.mk (KidOf.at_ y_1) y_3 : Kid)])))))) ∧ ((decide ((x4 : Int) < ((Edit.kids e).length : Int))) = false → (Q .ret (⟨[(2, .ptr (.loc 2) 0)], [((.loc 2), [.int .i64 2, .int .i64 0, .nils, .nils, .int .i64 0, .nils, .nils, .slice (U := U) .wedit (([] : List WEdit) ++ (Edit.words e)) (.own (.l 2 7)), .slice (U := U) .kid ml3_8 (.own (.l 2 8)), .int .i64 0, .nils])], []⟩ : LSt U))))) := by kernel_rfl
  exact e_.mpr (by intro y_1 y_2 y_3; have hh := h y_1 rfl y_2 (reEdit_eq _) y_3 (reEdit_eq _); exact ⟨fun c_4 => ⟨(hh.1 c_4).1, (hh.1 c_4).2.1, (hh.1 c_4).2.2.1, (hh.1 c_4).2.2.2.1, (hh.1 c_4).2.2.2.2.1, ⟨(hh.1 c_4).2.2.2.2.2.1, (hh.1 c_4).2.2.2.2.2.2⟩⟩, fun c_4 => (hh.2 c_4)⟩)
def Body41 (N : Nat) (e : Edit)  : Prop := awp cfg (know (know41 N)) (drawOk cfg (know (know41 N))) Try.f41.ntmps lv41 (cd Try.f41 []) (entry (args41.can (e, ())) []) (EndsQ cfg Try.f41.ntmps Try.f41.results.toList (res41 (e, ())) [])
abbrev HB41 : Prop := ∀ (N : Nat) (e : Edit) (_ : Unit), pre41 (e, ()) → mu41 (e, ()) < N + 1 → Body41 N e
noncomputable def know78 (N : Nat) : List (FuncId × Fs U) := (41, fs args41 (fun a => [pre41 a, mu41 a < N]) res41) :: (78, fs args78 (fun a => [pre78 a, mu78 a < N]) res78) :: [(31, spec31), (108, spec108), (109, spec1109)]
def lv78 : Lives U := fun i => match i with
  | 0 => ([(0, []), (1, [])], [])
  | 1 => ([(0, []), (1, []), (5, [.wr .op])], [])
  | 2 => ([(0, []), (1, []), (5, [.wr .op]), (6, [])], [])
  | 3 => ([(0, []), (1, []), (5, [.wr .op]), (6, []), (16, [])], [])
  | 4 => ([(0, []), (1, []), (5, [.wr .op]), (6, [])], [])
  | 5 => ([(0, []), (1, []), (5, [.wr .op]), (6, []), (7, []), (8, [])], [])
  | 6 => ([(0, []), (1, []), (5, [.wr .op]), (7, []), (8, []), (9, [])], [])
  | 7 => ([(0, []), (1, []), (5, [.wr .op]), (7, []), (8, []), (9, []), (33, [])], [])
  | 8 => ([(0, []), (1, []), (5, [.wr .op]), (8, []), (9, [])], [])
  | 9 => ([(0, []), (1, []), (5, [.wr .op]), (8, []), (9, []), (41, [])], [])
  | 10 => ([(0, []), (1, []), (5, [.wr .op]), (8, []), (9, []), (41, [])], [])
  | 11 => ([(0, []), (1, []), (5, [.wr .op]), (6, [])], [])
  | 12 => ([(0, []), (1, []), (5, [.wr .op]), (6, []), (51, [])], [])
  | 13 => ([(4, [])], [])
  | 14 => ([(0, []), (1, []), (5, [.wr .op]), (6, []), (11, [])], [((.loc 11), [])])
  | 15 => ([(0, []), (1, []), (5, [.wr .op]), (6, []), (11, []), (64, [])], [((.loc 11), [])])
  | 16 => ([(0, []), (1, []), (5, [.wr .op]), (6, []), (11, [])], [((.loc 11), [])])
  | 17 => ([(0, []), (1, []), (5, [.wr .op]), (6, []), (11, []), (75, [])], [((.loc 11), [])])
  | 18 => ([(0, []), (1, []), (5, [.wr .op]), (6, []), (11, [])], [((.loc 11), [])])
  | 19 => ([(0, []), (1, []), (5, [.wr .op]), (6, []), (11, []), (12, [])], [((.loc 11), [])])
  | 20 => ([(0, []), (1, []), (5, [.wr .op]), (6, []), (11, []), (12, []), (94, [])], [((.loc 11), [])])
  | 21 => ([(0, []), (1, []), (5, [.wr .op]), (6, [])], [])
  | 22 => ([(0, []), (1, []), (5, [.wr .op]), (6, [])], [])
  | 23 => ([(4, [])], [])
  | _ => ([], [])
def head78_0 (list : Int) (l : List Op) (x6 : Int) (re_5_0 : List Op) : LSt U := (⟨[(0, .c (.int .i64 list)), (1, .c (.slice (U := U) .op l .unk)), (5, .c (.mref (.e 5 0))), (6, .c (.int .i64 x6))], [], [(.e 5 0, LC.mk (U := U) .op re_5_0 0)]⟩ : LSt U)
def head78_1 (list : Int) (l : List Op) (x6 : Int) (re_5_0_a : List Op) : LSt U := (⟨[(0, .c (.int .i64 list)), (1, .c (.slice (U := U) .op l .unk)), (5, .c (.mref (.e 5 0))), (8, .c (.int .i64 (x6 + gapN ((l).drop (x6).toNat)))), (9, .c (.slice (U := U) .tree (gapT 2 ((l).drop (x6).toNat)) .unk)), (41, .c (.bool (decide ((0 : Int) < ((gapT 2 ((l).drop (x6).toNat)).length : Int)))))], [], [(.e 5 0, LC.mk (U := U) .op re_5_0_a 0)]⟩ : LSt U)
abbrev W78 (N : Nat) (list : Int) (l : List Op) (Q : AExit → LSt U → Prop) := awp cfg (know (know78 N)) (drawOk cfg (know (know78 N))) Try.f78.ntmps lv78 (cd Try.f78 []) (⟨[(0, .c (.int .i64 list)), (1, .c (.slice (U := U) .op l .unk))], [], []⟩ : LSt U) Q
abbrev a78_G22e (N : Nat) := awp cfg (know (know78 N)) (drawOk cfg (know (know78 N))) Try.f78.ntmps lv78
abbrev s78_G22e (N : Nat) := seqK cfg (know (know78 N)) (drawOk cfg (know (know78 N))) Try.f78.ntmps lv78
theorem vc78 (N : Nat) (list : Int) (l : List Op) (Q : AExit → LSt U → Prop) (h : LoopWp (awp cfg (know (know78 N)) (drawOk cfg (know (know78 N))) Try.f78.ntmps lv78 (cd Try.f78 [1, 1, 0, 1, 0, 0])) (head78_0 list l 0 ([])) (AExit.inBlock 0 (seqK cfg (know (know78 N)) (drawOk cfg (know (know78 N))) Try.f78.ntmps lv78 (cd Try.f78 [1, 1, 1]) Q))) :
    W78 N list l Q := by
  have e_ : (W78 N list l Q) = ((((LoopWp (a78_G22e N (cd Try.f78 [1, 1, 0, 1, 0, 0])) (head78_0 list l 0 ([])) (AExit.inBlock 0 (s78_G22e N (cd Try.f78 [1, 1, 1]) Q)))))) := by kernel_rfl
  exact e_.mpr h
abbrev W78_l0 (N : Nat) (list : Int) (l : List Op) (x6 : Int) (re_5_0 : List Op) (N0 : LSt U → Prop) (Q : AExit → LSt U → Prop) := awp cfg (know (know78 N)) (drawOk cfg (know (know78 N))) Try.f78.ntmps lv78 (cd Try.f78 [1, 1, 0, 1, 0, 0]) (head78_0 list l x6 re_5_0) (AExit.then N0 (AExit.inBlock 0 (seqK cfg (know (know78 N)) (drawOk cfg (know (know78 N))) Try.f78.ntmps lv78 (cd Try.f78 [1, 1, 1]) Q)))
theorem vc78_l0 (N : Nat) (list : Int) (l : List Op) (x6 : Int) (re_5_0 : List Op) (N0 : LSt U → Prop) (Q : AExit → LSt U → Prop) (h : ∀ y_1, y_1 = (Edit.mk 0 (Tree.mk 0 ([]) ([])) (Tree.mk 0 ([]) ([])) ([]) ([]) 0 ([])) → ((decide ((x6 : Int) < (l.length : Int))) = true → (pre108 (l, x6, 1, ())) ∧ ((pre108 (l, x6, 2, ())) ∧ (((decide ((0 : Int) < ((gapT 1 ((l).drop (x6).toNat)).length : Int))) = true → ((re_5_0.length + ([(OpOf.mk 1 0 (gapT 1 ((l).drop (x6).toNat)) y_1 : Op)]).length) * 240 ≤ 140737488355328) ∧ (((decide ((0 : Int) < ((gapT 2 ((l).drop (x6).toNat)).length : Int))) = true → (((re_5_0 ++ ([(OpOf.mk 1 0 (gapT 1 ((l).drop (x6).toNat)) y_1 : Op)])).length + ([(OpOf.mk 2 0 (gapT 2 ((l).drop (x6).toNat)) y_1 : Op)]).length) * 240 ≤ 140737488355328) ∧ (awp cfg (know (know78 N)) (drawOk cfg (know (know78 N))) Try.f78.ntmps lv78 (cd Try.f78 [1, 1, 0, 1, 0, 0, 1, 0, 0, 1, 1, 1, 1]) (head78_1 list l x6 ((re_5_0 ++ ([(OpOf.mk 1 0 (gapT 1 ((l).drop (x6).toNat)) y_1 : Op)])) ++ ([(OpOf.mk 2 0 (gapT 2 ((l).drop (x6).toNat)) y_1 : Op)]))) (AExit.inBlock 1 (seqK cfg (know (know78 N)) (drawOk cfg (know (know78 N))) Try.f78.ntmps lv78 (cd Try.f78 [1, 1, 0, 1, 0, 0, 1, 1]) (AExit.then N0 (AExit.inBlock 0 (seqK cfg (know (know78 N)) (drawOk cfg (know (know78 N))) Try.f78.ntmps lv78 (cd Try.f78 [1, 1, 1]) Q))))))) ∧ ((decide ((0 : Int) < ((gapT 2 ((l).drop (x6).toNat)).length : Int))) = false → awp cfg (know (know78 N)) (drawOk cfg (know (know78 N))) Try.f78.ntmps lv78 (cd Try.f78 [1, 1, 0, 1, 0, 0, 1, 0, 0, 1, 1, 1, 1]) (head78_1 list l x6 (re_5_0 ++ ([(OpOf.mk 1 0 (gapT 1 ((l).drop (x6).toNat)) y_1 : Op)]))) (AExit.inBlock 1 (seqK cfg (know (know78 N)) (drawOk cfg (know (know78 N))) Try.f78.ntmps lv78 (cd Try.f78 [1, 1, 0, 1, 0, 0, 1, 1]) (AExit.then N0 (AExit.inBlock 0 (seqK cfg (know (know78 N)) (drawOk cfg (know (know78 N))) Try.f78.ntmps lv78 (cd Try.f78 [1, 1, 1]) Q)))))))) ∧ ((decide ((0 : Int) < ((gapT 1 ((l).drop (x6).toNat)).length : Int))) = false → ((decide ((0 : Int) < ((gapT 2 ((l).drop (x6).toNat)).length : Int))) = true → ((re_5_0.length + ([(OpOf.mk 2 0 (gapT 2 ((l).drop (x6).toNat)) y_1 : Op)]).length) * 240 ≤ 140737488355328) ∧ (awp cfg (know (know78 N)) (drawOk cfg (know (know78 N))) Try.f78.ntmps lv78 (cd Try.f78 [1, 1, 0, 1, 0, 0, 1, 0, 0, 1, 1, 1, 1]) (head78_1 list l x6 (re_5_0 ++ ([(OpOf.mk 2 0 (gapT 2 ((l).drop (x6).toNat)) y_1 : Op)]))) (AExit.inBlock 1 (seqK cfg (know (know78 N)) (drawOk cfg (know (know78 N))) Try.f78.ntmps lv78 (cd Try.f78 [1, 1, 0, 1, 0, 0, 1, 1]) (AExit.then N0 (AExit.inBlock 0 (seqK cfg (know (know78 N)) (drawOk cfg (know (know78 N))) Try.f78.ntmps lv78 (cd Try.f78 [1, 1, 1]) Q))))))) ∧ ((decide ((0 : Int) < ((gapT 2 ((l).drop (x6).toNat)).length : Int))) = false → awp cfg (know (know78 N)) (drawOk cfg (know (know78 N))) Try.f78.ntmps lv78 (cd Try.f78 [1, 1, 0, 1, 0, 0, 1, 0, 0, 1, 1, 1, 1]) (head78_1 list l x6 re_5_0) (AExit.inBlock 1 (seqK cfg (know (know78 N)) (drawOk cfg (know (know78 N))) Try.f78.ntmps lv78 (cd Try.f78 [1, 1, 0, 1, 0, 0, 1, 1]) (AExit.then N0 (AExit.inBlock 0 (seqK cfg (know (know78 N)) (drawOk cfg (know (know78 N))) Try.f78.ntmps lv78 (cd Try.f78 [1, 1, 1]) Q)))))))))) ∧ ((decide ((x6 : Int) < (l.length : Int))) = false → Q .ret (⟨[(4, .c (.slice (U := U) .op re_5_0 (.own (.e 4 0))))], [], []⟩ : LSt U))) :
    W78_l0 N list l x6 re_5_0 N0 Q := by
  have e_ : (W78_l0 N list l x6 re_5_0 N0 Q) = (let y_1 := (Edit.mk 0 (Tree.mk 0 ([]) ([])) (Tree.mk 0 ([]) ([])) ([]) ([]) 0 ([])); let zz1 := (decide ((0 : Int) < ((gapT 1 ((l).drop (x6).toNat)).length : Int))); let zz0 := (decide ((0 : Int) < ((gapT 2 ((l).drop (x6).toNat)).length : Int))); (((decide ((x6 : Int) < (l.length : Int))) = true → (pre108 (l, x6, 1, ())) ∧ ((pre108 (l, x6, 2, ())) ∧ (((zz1 = true → ((re_5_0.length + ([(OpOf.mk 1 0 (gapT 1 ((l).drop (x6).toNat)) y_1 : Op)]).length) * 240 ≤ 140737488355328) ∧ (((zz0 = true → (((re_5_0 ++ ([(OpOf.mk 1 0 (gapT 1 ((l).drop (x6).toNat)) y_1 : Op)])).length + ([(OpOf.mk 2 0 (gapT 2 ((l).drop (x6).toNat)) y_1 : Op)]).length) * 240 ≤ 140737488355328) ∧ (a78_G22e N (cd Try.f78 [1, 1, 0, 1, 0, 0, 1, 0, 0, 1, 1, 1, 1]) (head78_1 list l x6 ((re_5_0 ++ ([(OpOf.mk 1 0 (gapT 1 ((l).drop (x6).toNat)) y_1 : Op)])) ++ ([(OpOf.mk 2 0 (gapT 2 ((l).drop (x6).toNat)) y_1 : Op)]))) (AExit.inBlock 1 (s78_G22e N (cd Try.f78 [1, 1, 0, 1, 0, 0, 1, 1]) (AExit.then N0 (AExit.inBlock 0 (s78_G22e N (cd Try.f78 [1, 1, 1]) Q))))))) ∧ (zz0 = false → a78_G22e N (cd Try.f78 [1, 1, 0, 1, 0, 0, 1, 0, 0, 1, 1, 1, 1]) (head78_1 list l x6 (re_5_0 ++ ([(OpOf.mk 1 0 (gapT 1 ((l).drop (x6).toNat)) y_1 : Op)]))) (AExit.inBlock 1 (s78_G22e N (cd Try.f78 [1, 1, 0, 1, 0, 0, 1, 1]) (AExit.then N0 (AExit.inBlock 0 (s78_G22e N (cd Try.f78 [1, 1, 1]) Q))))))))) ∧ (zz1 = false → ((zz0 = true → ((re_5_0.length + ([(OpOf.mk 2 0 (gapT 2 ((l).drop (x6).toNat)) y_1 : Op)]).length) * 240 ≤ 140737488355328) ∧ (a78_G22e N (cd Try.f78 [1, 1, 0, 1, 0, 0, 1, 0, 0, 1, 1, 1, 1]) (head78_1 list l x6 (re_5_0 ++ ([(OpOf.mk 2 0 (gapT 2 ((l).drop (x6).toNat)) y_1 : Op)]))) (AExit.inBlock 1 (s78_G22e N (cd Try.f78 [1, 1, 0, 1, 0, 0, 1, 1]) (AExit.then N0 (AExit.inBlock 0 (s78_G22e N (cd Try.f78 [1, 1, 1]) Q))))))) ∧ (zz0 = false → a78_G22e N (cd Try.f78 [1, 1, 0, 1, 0, 0, 1, 0, 0, 1, 1, 1, 1]) (head78_1 list l x6 re_5_0) (AExit.inBlock 1 (s78_G22e N (cd Try.f78 [1, 1, 0, 1, 0, 0, 1, 1]) (AExit.then N0 (AExit.inBlock 0 (s78_G22e N (cd Try.f78 [1, 1, 1]) Q)))))))))))) ∧ ((decide ((x6 : Int) < (l.length : Int))) = false → (Q .ret (⟨[(4, .c (.slice (U := U) .op re_5_0 (.own (.e 4 0))))], [], []⟩ : LSt U))))) := by kernel_rfl
  exact e_.mpr (by intro y_1; have hh := h y_1 rfl; exact ⟨fun c_5 => ⟨(hh.1 c_5).1, ⟨(hh.1 c_5).2.1, ⟨fun c_6 => ⟨((hh.1 c_5).2.2.1 c_6).1, ⟨fun c_7 => ⟨(((hh.1 c_5).2.2.1 c_6).2.1 c_7).1, (((hh.1 c_5).2.2.1 c_6).2.1 c_7).2⟩, fun c_7 => (((hh.1 c_5).2.2.1 c_6).2.2 c_7)⟩⟩, fun c_6 => ⟨fun c_8 => ⟨(((hh.1 c_5).2.2.2 c_6).1 c_8).1, (((hh.1 c_5).2.2.2 c_6).1 c_8).2⟩, fun c_8 => (((hh.1 c_5).2.2.2 c_6).2 c_8)⟩⟩⟩⟩, fun c_5 => (hh.2 c_5)⟩)
abbrev W78_c1 (N : Nat) (list : Int) (l : List Op) (x6 : Int) (re_5_0_a : List Op) (N0 : LSt U → Prop) (Q : AExit → LSt U → Prop) := awp cfg (know (know78 N)) (drawOk cfg (know (know78 N))) Try.f78.ntmps lv78 (cd Try.f78 [1, 1, 0, 1, 0, 0, 1, 0, 0, 1, 1, 1, 1]) (head78_1 list l x6 re_5_0_a) (AExit.inBlock 1 (seqK cfg (know (know78 N)) (drawOk cfg (know (know78 N))) Try.f78.ntmps lv78 (cd Try.f78 [1, 1, 0, 1, 0, 0, 1, 1]) (AExit.then N0 (AExit.inBlock 0 (seqK cfg (know (know78 N)) (drawOk cfg (know (know78 N))) Try.f78.ntmps lv78 (cd Try.f78 [1, 1, 1]) Q)))))
theorem vc78_c1 (N : Nat) (list : Int) (l : List Op) (x6 : Int) (re_5_0_a : List Op) (N0 : LSt U → Prop) (Q : AExit → LSt U → Prop) (h : ∀ y_1, y_1 = (List.getD l (Int.toNat (x6 + gapN ((l).drop (x6).toNat))) Op.nil) → ∀ y_2, y_2 = (Edit.mk 0 (Tree.mk 0 ([]) ([])) (Tree.mk 0 ([]) ([])) ([]) ([]) 0 ([])) → ∀ y_3, y_3 = (List.getD re_5_0_a (Int.toNat (((re_5_0_a.length : Int) : Int) - 1)) Op.nil) → ∀ y_4, y_4 = ((OpOf.e y_1)) → ∀ y_5, y_5 = ((OpOf.e y_3)) → ∀ y_6, y_6 = ((nrmE y_4)) → ((decide (((l.length : Int) : Int) ≤ (x6 + gapN ((l).drop (x6).toNat)))) = true → Q .ret (⟨[(4, .c (.slice (U := U) .op re_5_0_a (.own (.e 4 0))))], [], []⟩ : LSt U)) ∧ ((decide (((l.length : Int) : Int) ≤ (x6 + gapN ((l).drop (x6).toNat)))) = false → ((0 : Int) ≤ (x6 + gapN ((l).drop (x6).toNat)) ∧ (x6 + gapN ((l).drop (x6).toNat)) < (l.length : Int)) ∧ (((0 : Int) ≤ (x6 + gapN ((l).drop (x6).toNat)) ∧ (x6 + gapN ((l).drop (x6).toNat)) < (l.length : Int)) ∧ (((((OpOf.kind y_1) : Int) == 3) = true → ((0 : Int) ≤ (x6 + gapN ((l).drop (x6).toNat)) ∧ (x6 + gapN ((l).drop (x6).toNat)) < (l.length : Int)) ∧ (pre41 (y_4, ())) ∧ (mu41 (y_4, ()) < N) ∧ ((pre1109 (list, y_6, ())) ∧ (((idleE list y_6) = true → ((bif ((0 : Int) == 0) then (decide ((0 : Int) < (re_5_0_a.length : Int))) else false) = true → InR (((re_5_0_a.length : Int) : Int) - 1)) ∧ ((bif ((0 : Int) == 0) then (decide ((0 : Int) < (re_5_0_a.length : Int))) else false) = true → (0 : Int) ≤ (((re_5_0_a.length : Int) : Int) - 1) ∧ (((re_5_0_a.length : Int) : Int) - 1) < (re_5_0_a.length : Int)) ∧ (((bif (bif ((0 : Int) == 0) then (decide ((0 : Int) < (re_5_0_a.length : Int))) else false) then (((OpOf.kind y_3) : Int) == 0) else false) = true → (InR (((re_5_0_a.length : Int) : Int) - 1)) ∧ (InR (((re_5_0_a.length : Int) : Int) - 1)) ∧ ((0 : Int) ≤ (((re_5_0_a.length : Int) : Int) - 1) ∧ (((re_5_0_a.length : Int) : Int) - 1) < (re_5_0_a.length : Int)) ∧ (InR (((OpOf.n y_3) : Int) + 1)) ∧ ((0 : Int) ≤ (((re_5_0_a.length : Int) : Int) - 1) ∧ (((re_5_0_a.length : Int) : Int) - 1) < (re_5_0_a.length : Int)) ∧ ((0 : Nat) ≤ (Int.toNat (((re_5_0_a.length : Int) : Int) - 1))) ∧ ((InR (((x6 + gapN ((l).drop (x6).toNat)) : Int) + 1)) ∧ (N0 (head78_0 list l (((x6 + gapN ((l).drop (x6).toNat)) : Int) + 1) (List.set re_5_0_a (Int.toNat (((re_5_0_a.length : Int) : Int) - 1)) (OpOf.mk (OpOf.kind y_3) (((OpOf.n y_3) : Int) + 1) (OpOf.l y_3) y_5 : Op)))))) ∧ ((bif (bif ((0 : Int) == 0) then (decide ((0 : Int) < (re_5_0_a.length : Int))) else false) then (((OpOf.kind y_3) : Int) == 0) else false) = false → ((re_5_0_a.length + ([(OpOf.mk 0 1 ([]) y_2 : Op)]).length) * 240 ≤ 140737488355328) ∧ ((InR (((x6 + gapN ((l).drop (x6).toNat)) : Int) + 1)) ∧ (N0 (head78_0 list l (((x6 + gapN ((l).drop (x6).toNat)) : Int) + 1) (re_5_0_a ++ ([(OpOf.mk 0 1 ([]) y_2 : Op)])))))))) ∧ ((idleE list y_6) = false → ((bif ((3 : Int) == 0) then (decide ((0 : Int) < (re_5_0_a.length : Int))) else false) = true → InR (((re_5_0_a.length : Int) : Int) - 1)) ∧ ((bif ((3 : Int) == 0) then (decide ((0 : Int) < (re_5_0_a.length : Int))) else false) = true → (0 : Int) ≤ (((re_5_0_a.length : Int) : Int) - 1) ∧ (((re_5_0_a.length : Int) : Int) - 1) < (re_5_0_a.length : Int)) ∧ (((bif (bif ((3 : Int) == 0) then (decide ((0 : Int) < (re_5_0_a.length : Int))) else false) then (((OpOf.kind y_3) : Int) == 0) else false) = true → (InR (((re_5_0_a.length : Int) : Int) - 1)) ∧ (InR (((re_5_0_a.length : Int) : Int) - 1)) ∧ ((0 : Int) ≤ (((re_5_0_a.length : Int) : Int) - 1) ∧ (((re_5_0_a.length : Int) : Int) - 1) < (re_5_0_a.length : Int)) ∧ (InR (((OpOf.n y_3) : Int) + 0)) ∧ ((0 : Int) ≤ (((re_5_0_a.length : Int) : Int) - 1) ∧ (((re_5_0_a.length : Int) : Int) - 1) < (re_5_0_a.length : Int)) ∧ ((0 : Nat) ≤ (Int.toNat (((re_5_0_a.length : Int) : Int) - 1))) ∧ ((InR (((x6 + gapN ((l).drop (x6).toNat)) : Int) + 1)) ∧ (N0 (head78_0 list l (((x6 + gapN ((l).drop (x6).toNat)) : Int) + 1) (List.set re_5_0_a (Int.toNat (((re_5_0_a.length : Int) : Int) - 1)) (OpOf.mk (OpOf.kind y_3) (((OpOf.n y_3) : Int) + 0) (OpOf.l y_3) y_5 : Op)))))) ∧ ((bif (bif ((3 : Int) == 0) then (decide ((0 : Int) < (re_5_0_a.length : Int))) else false) then (((OpOf.kind y_3) : Int) == 0) else false) = false → ((re_5_0_a.length + ([(OpOf.mk 3 0 ([]) y_6 : Op)]).length) * 240 ≤ 140737488355328) ∧ ((InR (((x6 + gapN ((l).drop (x6).toNat)) : Int) + 1)) ∧ (N0 (head78_0 list l (((x6 + gapN ((l).drop (x6).toNat)) : Int) + 1) (re_5_0_a ++ ([(OpOf.mk 3 0 ([]) y_6 : Op)]))))))))))) ∧ ((((OpOf.kind y_1) : Int) == 3) = false → ((bif ((0 : Int) == 0) then (decide ((0 : Int) < (re_5_0_a.length : Int))) else false) = true → InR (((re_5_0_a.length : Int) : Int) - 1)) ∧ ((bif ((0 : Int) == 0) then (decide ((0 : Int) < (re_5_0_a.length : Int))) else false) = true → (0 : Int) ≤ (((re_5_0_a.length : Int) : Int) - 1) ∧ (((re_5_0_a.length : Int) : Int) - 1) < (re_5_0_a.length : Int)) ∧ (((bif (bif ((0 : Int) == 0) then (decide ((0 : Int) < (re_5_0_a.length : Int))) else false) then (((OpOf.kind y_3) : Int) == 0) else false) = true → (InR (((re_5_0_a.length : Int) : Int) - 1)) ∧ (InR (((re_5_0_a.length : Int) : Int) - 1)) ∧ ((0 : Int) ≤ (((re_5_0_a.length : Int) : Int) - 1) ∧ (((re_5_0_a.length : Int) : Int) - 1) < (re_5_0_a.length : Int)) ∧ (InR (((OpOf.n y_3) : Int) + (OpOf.n y_1))) ∧ ((0 : Int) ≤ (((re_5_0_a.length : Int) : Int) - 1) ∧ (((re_5_0_a.length : Int) : Int) - 1) < (re_5_0_a.length : Int)) ∧ ((0 : Nat) ≤ (Int.toNat (((re_5_0_a.length : Int) : Int) - 1))) ∧ ((InR (((x6 + gapN ((l).drop (x6).toNat)) : Int) + 1)) ∧ (N0 (head78_0 list l (((x6 + gapN ((l).drop (x6).toNat)) : Int) + 1) (List.set re_5_0_a (Int.toNat (((re_5_0_a.length : Int) : Int) - 1)) (OpOf.mk (OpOf.kind y_3) (((OpOf.n y_3) : Int) + (OpOf.n y_1)) (OpOf.l y_3) y_5 : Op)))))) ∧ ((bif (bif ((0 : Int) == 0) then (decide ((0 : Int) < (re_5_0_a.length : Int))) else false) then (((OpOf.kind y_3) : Int) == 0) else false) = false → ((re_5_0_a.length + ([(OpOf.mk 0 (OpOf.n y_1) ([]) y_2 : Op)]).length) * 240 ≤ 140737488355328) ∧ ((InR (((x6 + gapN ((l).drop (x6).toNat)) : Int) + 1)) ∧ (N0 (head78_0 list l (((x6 + gapN ((l).drop (x6).toNat)) : Int) + 1) (re_5_0_a ++ ([(OpOf.mk 0 (OpOf.n y_1) ([]) y_2 : Op)])))))))))))) :
    W78_c1 N list l x6 re_5_0_a N0 Q := by
  have e_ : (W78_c1 N list l x6 re_5_0_a N0 Q) = (let y_1 := (List.getD l (Int.toNat (x6 + gapN ((l).drop (x6).toNat))) Op.nil); let y_2 := (Edit.mk 0 (Tree.mk 0 ([]) ([])) (Tree.mk 0 ([]) ([])) ([]) ([]) 0 ([])); let y_3 := (List.getD re_5_0_a (Int.toNat ((re_5_0_a.length : Int) - 1)) Op.nil); let y_4 := (reEdit (OpOf.e y_1)); let y_5 := (reEdit (OpOf.e y_3)); let y_6 := (reEdit (nrmE y_4)); let zz3 := (decide ((l.length : Int) ≤ (x6 + gapN ((l).drop (x6).toNat)))); let zz2 := ((OpOf.kind y_3) == 0); let zz1 := (bif ((3 : Int) == 0) then (decide ((0 : Int) < (re_5_0_a.length : Int))) else false); let zz0 := (bif ((0 : Int) == 0) then (decide ((0 : Int) < (re_5_0_a.length : Int))) else false); (((zz3 = true → (Q .ret (⟨[(4, .c (.slice (U := U) .op re_5_0_a (.own (.e 4 0))))], [], []⟩ : LSt U))) ∧ (zz3 = false → ((0 : Int) ≤ (x6 + gapN ((l).drop (x6).toNat)) ∧ (x6 + gapN ((l).drop (x6).toNat)) < (l.length : Int)) ∧ (((0 : Int) ≤ (x6 + gapN ((l).drop (x6).toNat)) ∧ (x6 + gapN ((l).drop (x6).toNat)) < (l.length : Int)) ∧ ((((OpOf.kind y_1) == 3) = true → ((0 : Int) ≤ (x6 + gapN ((l).drop (x6).toNat)) ∧ (x6 + gapN ((l).drop (x6).toNat)) < (l.length : Int)) ∧ (pre41 (y_4, ())) ∧ (mu41 (y_4, ()) < N) ∧ ((pre1109 (list, y_6, ())) ∧ (((idleE list y_6) = true → (((TrG22e (((0 : Int) == 0) = true)) ∧ ((TrG22e (((0 : Int) == 0) = true))) ∧ (TrG22e (zz0 = true)) ∧ (zz0 = true → InR ((re_5_0_a.length : Int) - 1)) ∧ (TrG22e (zz0 = true)) ∧ (TrG22e (zz0 = true)) ∧ (zz0 = true → (0 : Int) ≤ ((re_5_0_a.length : Int) - 1) ∧ ((re_5_0_a.length : Int) - 1) < (re_5_0_a.length : Int)) ∧ (TrG22e (zz0 = true)) ∧ (TrG22e (zz0 = true)) ∧ (TrG22e (zz0 = true)) ∧ ((TrG22e (zz0 = true))) ∧ (((bif zz0 then zz2 else false) = true → (InR ((re_5_0_a.length : Int) - 1)) ∧ (InR ((re_5_0_a.length : Int) - 1)) ∧ ((0 : Int) ≤ ((re_5_0_a.length : Int) - 1) ∧ ((re_5_0_a.length : Int) - 1) < (re_5_0_a.length : Int)) ∧ (InR ((OpOf.n y_3) + 1)) ∧ ((0 : Int) ≤ ((re_5_0_a.length : Int) - 1) ∧ ((re_5_0_a.length : Int) - 1) < (re_5_0_a.length : Int)) ∧ ((0 : Nat) ≤ (Int.toNat ((re_5_0_a.length : Int) - 1))) ∧ ((InR (((x6 + gapN ((l).drop (x6).toNat)) : Int) + 1)) ∧ (N0 (head78_0 list l (((x6 + gapN ((l).drop (x6).toNat)) : Int) + 1) (List.set re_5_0_a (Int.toNat ((re_5_0_a.length : Int) - 1)) (OpOf.mk (OpOf.kind y_3) ((OpOf.n y_3) + 1) (OpOf.l y_3) y_5 : Op)))))) ∧ ((bif zz0 then zz2 else false) = false → ((re_5_0_a.length + ([(OpOf.mk 0 1 ([]) y_2 : Op)]).length) * 240 ≤ 140737488355328) ∧ ((InR (((x6 + gapN ((l).drop (x6).toNat)) : Int) + 1)) ∧ (N0 (head78_0 list l (((x6 + gapN ((l).drop (x6).toNat)) : Int) + 1) (re_5_0_a ++ ([(OpOf.mk 0 1 ([]) y_2 : Op)])))))))))) ∧ ((idleE list y_6) = false → ((TrG22e (((3 : Int) == 0) = true)) ∧ ((TrG22e (((3 : Int) == 0) = true))) ∧ (TrG22e (zz1 = true)) ∧ (zz1 = true → InR ((re_5_0_a.length : Int) - 1)) ∧ (TrG22e (zz1 = true)) ∧ (TrG22e (zz1 = true)) ∧ (zz1 = true → (0 : Int) ≤ ((re_5_0_a.length : Int) - 1) ∧ ((re_5_0_a.length : Int) - 1) < (re_5_0_a.length : Int)) ∧ (TrG22e (zz1 = true)) ∧ (TrG22e (zz1 = true)) ∧ (TrG22e (zz1 = true)) ∧ ((TrG22e (zz1 = true))) ∧ (((bif zz1 then zz2 else false) = true → (InR ((re_5_0_a.length : Int) - 1)) ∧ (InR ((re_5_0_a.length : Int) - 1)) ∧ ((0 : Int) ≤ ((re_5_0_a.length : Int) - 1) ∧ ((re_5_0_a.length : Int) - 1) < (re_5_0_a.length : Int)) ∧ (InR ((OpOf.n y_3) + 0)) ∧ ((0 : Int) ≤ ((re_5_0_a.length : Int) - 1) ∧ ((re_5_0_a.length : Int) - 1) < (re_5_0_a.length : Int)) ∧ ((0 : Nat) ≤ (Int.toNat ((re_5_0_a.length : Int) - 1))) ∧ ((InR (((x6 + gapN ((l).drop (x6).toNat)) : Int) + 1)) ∧ (N0 (head78_0 list l (((x6 + gapN ((l).drop (x6).toNat)) : Int) + 1) (List.set re_5_0_a (Int.toNat ((re_5_0_a.length : Int) - 1)) (OpOf.mk (OpOf.kind y_3) ((OpOf.n y_3) + 0) (OpOf.l y_3) y_5 : Op)))))) ∧ ((bif zz1 then zz2 else false) = false → ((re_5_0_a.length + ([(OpOf.mk 3 0 ([]) y_6 : Op)]).length) * 240 ≤ 140737488355328) ∧ ((InR (((x6 + gapN ((l).drop (x6).toNat)) : Int) + 1)) ∧ (N0 (head78_0 list l (((x6 + gapN ((l).drop (x6).toNat)) : Int) + 1) (re_5_0_a ++ ([(OpOf.mk 3 0 ([]) y_6 : Op)])))))))))))) ∧ (((OpOf.kind y_1) == 3) = false → ((TrG22e (((0 : Int) == 0) = true)) ∧ ((TrG22e (((0 : Int) == 0) = true))) ∧ (TrG22e (zz0 = true)) ∧ (zz0 = true → InR ((re_5_0_a.length : Int) - 1)) ∧ (TrG22e (zz0 = true)) ∧ (TrG22e (zz0 = true)) ∧ (zz0 = true → (0 : Int) ≤ ((re_5_0_a.length : Int) - 1) ∧ ((re_5_0_a.length : Int) - 1) < (re_5_0_a.length : Int)) ∧ (TrG22e (zz0 = true)) ∧ (TrG22e (zz0 = true)) ∧ (TrG22e (zz0 = true)) ∧ ((TrG22e (zz0 = true))) ∧ (((bif zz0 then zz2 else false) = true → (InR ((re_5_0_a.length : Int) - 1)) ∧ (InR ((re_5_0_a.length : Int) - 1)) ∧ ((0 : Int) ≤ ((re_5_0_a.length : Int) - 1) ∧ ((re_5_0_a.length : Int) - 1) < (re_5_0_a.length : Int)) ∧ (InR ((OpOf.n y_3) + (OpOf.n y_1))) ∧ ((0 : Int) ≤ ((re_5_0_a.length : Int) - 1) ∧ ((re_5_0_a.length : Int) - 1) < (re_5_0_a.length : Int)) ∧ ((0 : Nat) ≤ (Int.toNat ((re_5_0_a.length : Int) - 1))) ∧ ((InR (((x6 + gapN ((l).drop (x6).toNat)) : Int) + 1)) ∧ (N0 (head78_0 list l (((x6 + gapN ((l).drop (x6).toNat)) : Int) + 1) (List.set re_5_0_a (Int.toNat ((re_5_0_a.length : Int) - 1)) (OpOf.mk (OpOf.kind y_3) ((OpOf.n y_3) + (OpOf.n y_1)) (OpOf.l y_3) y_5 : Op)))))) ∧ ((bif zz0 then zz2 else false) = false → ((re_5_0_a.length + ([(OpOf.mk 0 (OpOf.n y_1) ([]) y_2 : Op)]).length) * 240 ≤ 140737488355328) ∧ ((InR (((x6 + gapN ((l).drop (x6).toNat)) : Int) + 1)) ∧ (N0 (head78_0 list l (((x6 + gapN ((l).drop (x6).toNat)) : Int) + 1) (re_5_0_a ++ ([(OpOf.mk 0 (OpOf.n y_1) ([]) y_2 : Op)]))))))))))))))) := by kernel_rfl
  exact e_.mpr (by intro y_1 y_2 y_3 y_4 y_5 y_6; have hh := h y_1 rfl y_2 rfl y_3 rfl y_4 (reEdit_eq _) y_5 (reEdit_eq _) y_6 (reEdit_eq _); exact ⟨fun c_9 => (hh.1 c_9), fun c_9 => ⟨(hh.2 c_9).1, ⟨(hh.2 c_9).2.1, ⟨fun c_10 => ⟨((hh.2 c_9).2.2.1 c_10).1, ((hh.2 c_9).2.2.1 c_10).2.1, ((hh.2 c_9).2.2.1 c_10).2.2.1, ⟨((hh.2 c_9).2.2.1 c_10).2.2.2.1, ⟨fun c_11 => ⟨id, (by generalize ((0 : Int) == 0) = b0; revert b0; decide), id, (((hh.2 c_9).2.2.1 c_10).2.2.2.2.1 c_11).1, id, id, (((hh.2 c_9).2.2.1 c_10).2.2.2.2.1 c_11).2.1, id, id, id, (by generalize (decide ((0 : Int) < (re_5_0_a.length : Int))) = b0; generalize ((0 : Int) == 0) = b1; revert b0 b1; decide), ⟨fun c_12 => ⟨((((hh.2 c_9).2.2.1 c_10).2.2.2.2.1 c_11).2.2.1 c_12).1, ((((hh.2 c_9).2.2.1 c_10).2.2.2.2.1 c_11).2.2.1 c_12).2.1, ((((hh.2 c_9).2.2.1 c_10).2.2.2.2.1 c_11).2.2.1 c_12).2.2.1, ((((hh.2 c_9).2.2.1 c_10).2.2.2.2.1 c_11).2.2.1 c_12).2.2.2.1, ((((hh.2 c_9).2.2.1 c_10).2.2.2.2.1 c_11).2.2.1 c_12).2.2.2.2.1, ((((hh.2 c_9).2.2.1 c_10).2.2.2.2.1 c_11).2.2.1 c_12).2.2.2.2.2.1, ⟨((((hh.2 c_9).2.2.1 c_10).2.2.2.2.1 c_11).2.2.1 c_12).2.2.2.2.2.2.1, ((((hh.2 c_9).2.2.1 c_10).2.2.2.2.1 c_11).2.2.1 c_12).2.2.2.2.2.2.2⟩⟩, fun c_12 => ⟨((((hh.2 c_9).2.2.1 c_10).2.2.2.2.1 c_11).2.2.2 c_12).1, ⟨((((hh.2 c_9).2.2.1 c_10).2.2.2.2.1 c_11).2.2.2 c_12).2.1, ((((hh.2 c_9).2.2.1 c_10).2.2.2.2.1 c_11).2.2.2 c_12).2.2⟩⟩⟩⟩, fun c_11 => ⟨id, (by generalize ((3 : Int) == 0) = b0; revert b0; decide), id, (((hh.2 c_9).2.2.1 c_10).2.2.2.2.2 c_11).1, id, id, (((hh.2 c_9).2.2.1 c_10).2.2.2.2.2 c_11).2.1, id, id, id, (by generalize (decide ((0 : Int) < (re_5_0_a.length : Int))) = b0; generalize ((3 : Int) == 0) = b1; revert b0 b1; decide), ⟨fun c_13 => ⟨((((hh.2 c_9).2.2.1 c_10).2.2.2.2.2 c_11).2.2.1 c_13).1, ((((hh.2 c_9).2.2.1 c_10).2.2.2.2.2 c_11).2.2.1 c_13).2.1, ((((hh.2 c_9).2.2.1 c_10).2.2.2.2.2 c_11).2.2.1 c_13).2.2.1, ((((hh.2 c_9).2.2.1 c_10).2.2.2.2.2 c_11).2.2.1 c_13).2.2.2.1, ((((hh.2 c_9).2.2.1 c_10).2.2.2.2.2 c_11).2.2.1 c_13).2.2.2.2.1, ((((hh.2 c_9).2.2.1 c_10).2.2.2.2.2 c_11).2.2.1 c_13).2.2.2.2.2.1, ⟨((((hh.2 c_9).2.2.1 c_10).2.2.2.2.2 c_11).2.2.1 c_13).2.2.2.2.2.2.1, ((((hh.2 c_9).2.2.1 c_10).2.2.2.2.2 c_11).2.2.1 c_13).2.2.2.2.2.2.2⟩⟩, fun c_13 => ⟨((((hh.2 c_9).2.2.1 c_10).2.2.2.2.2 c_11).2.2.2 c_13).1, ⟨((((hh.2 c_9).2.2.1 c_10).2.2.2.2.2 c_11).2.2.2 c_13).2.1, ((((hh.2 c_9).2.2.1 c_10).2.2.2.2.2 c_11).2.2.2 c_13).2.2⟩⟩⟩⟩⟩⟩⟩, fun c_10 => ⟨id, (by generalize ((0 : Int) == 0) = b0; revert b0; decide), id, ((hh.2 c_9).2.2.2 c_10).1, id, id, ((hh.2 c_9).2.2.2 c_10).2.1, id, id, id, (by generalize (decide ((0 : Int) < (re_5_0_a.length : Int))) = b0; generalize ((0 : Int) == 0) = b1; revert b0 b1; decide), ⟨fun c_14 => ⟨(((hh.2 c_9).2.2.2 c_10).2.2.1 c_14).1, (((hh.2 c_9).2.2.2 c_10).2.2.1 c_14).2.1, (((hh.2 c_9).2.2.2 c_10).2.2.1 c_14).2.2.1, (((hh.2 c_9).2.2.2 c_10).2.2.1 c_14).2.2.2.1, (((hh.2 c_9).2.2.2 c_10).2.2.1 c_14).2.2.2.2.1, (((hh.2 c_9).2.2.2 c_10).2.2.1 c_14).2.2.2.2.2.1, ⟨(((hh.2 c_9).2.2.2 c_10).2.2.1 c_14).2.2.2.2.2.2.1, (((hh.2 c_9).2.2.2 c_10).2.2.1 c_14).2.2.2.2.2.2.2⟩⟩, fun c_14 => ⟨(((hh.2 c_9).2.2.2 c_10).2.2.2 c_14).1, ⟨(((hh.2 c_9).2.2.2 c_10).2.2.2 c_14).2.1, (((hh.2 c_9).2.2.2 c_10).2.2.2 c_14).2.2⟩⟩⟩⟩⟩⟩⟩⟩)
def Body78 (N : Nat) (list : Int) (l : List Op)  : Prop := awp cfg (know (know78 N)) (drawOk cfg (know (know78 N))) Try.f78.ntmps lv78 (cd Try.f78 []) (entry (args78.can (list, l, ())) []) (EndsQ cfg Try.f78.ntmps Try.f78.results.toList (res78 (list, l, ())) [])
abbrev HB78 : Prop := ∀ (N : Nat) (list : Int) (l : List Op) (_ : Unit), pre78 (list, l, ()) → mu78 (list, l, ()) < N + 1 → Body78 N list l
theorem make41_78 (c31 : Contract Try.prog cfg 31 spec31) (c108 : Contract Try.prog cfg 108 spec108) (c1109 : Contract Try.prog cfg 109 spec1109) (ha : HB41) (hb : HB78) : Contract Try.prog cfg 41 spec41 ∧ Contract Try.prog cfg 78 spec78 :=
  contract_mut2 (μA := mu41) (μB := mu78) (l := [(31, spec31), (108, spec108), (109, spec1109)]) cfgOk rfl (⟨c31, c108, c1109, trivial⟩) lv41 lv78 Try.func41 Try.func78 rfl rfl rfl rfl 1 2 (fun _ => rfl) (fun _ => rfl) (by decide) (by decide) (fun N ⟨e, _⟩ => ha N e ()) (fun N ⟨list, l, _⟩ => hb N list l ())
end
end Go.AM.Ytlahjnelghpmeaa

namespace Go.AM.Ytlahjnelghpmeaa
open Go.AM Go.Proofs
theorem gapN_stop : ∀ (l : List Op), 0 ≤ gapN l ∧ (gapN l < l.length → (l.getD (gapN l).toNat Op.nil).kind ≠ 1 ∧ (l.getD (gapN l).toNat Op.nil).kind ≠ 2)
  | [] => by simp [gapN]
  | o :: r => by
    obtain ⟨h1, h2⟩ := gapN_stop r
    rw [gapN]
    split
    · rename_i hk
      refine ⟨by omega, fun h => ?_⟩
      rw [show (1 + gapN r).toNat = (gapN r).toNat + 1 by omega, List.getD_cons_succ]
      exact h2 (by simp at h; omega)
    · rename_i hk
      refine ⟨by omega, fun _ => ?_⟩
      simp only [Int.toNat_zero, List.getD_cons_zero]
      omega
theorem gapN_le : ∀ (l : List Op), gapN l ≤ l.length
  | [] => by simp [gapN]
  | o :: r => by
    have := gapN_le r
    rw [gapN]
    split <;> simp <;> omega
theorem getD_dropA (l : List Op) (i k : Nat) : (l.drop i).getD k Op.nil = l.getD (i + k) Op.nil := by
  simp [List.getD, List.getElem?_drop]
theorem rightOp_kind {list : Int} {o : Op} {d : Int} (h : rightOp list o d = true) : o.kind = 0 ∨ o.kind = 1 ∨ o.kind = 2 ∨ o.kind = 3 := by
  obtain ⟨k, n, l, e⟩ := o
  show k = 0 ∨ k = 1 ∨ k = 2 ∨ k = 3
  rw [rightOp] at h
  split at h
  · omega
  · split at h
    · cases h
    · omega
theorem b78 : HB78 := by
  intro N list l _ hp hN
  simp only [pre78, mu78] at hp hN
  obtain ⟨p1, p3⟩ := hp
  have hl := massOs_len l
  refine vc78 _ _ _ _ ?_
  refine loop_rule (ι := Int × List Op) (fun s => head78_0 list l s.1 s.2)
    (fun s => 0 ≤ s.1 ∧ s.1 ≤ l.length ∧ (flushW (nrmOs list (l.drop s.1.toNat) ⟨s.2, [], []⟩)).out = (flushW (nrmOs list l ⟨[], [], []⟩)).out ∧ s.2.length ≤ 3 * s.1 ∧ ∀ o ∈ s.2, 0 ≤ o.n ∧ o.n ≤ s.1 * 1048576)
    (fun s => ((l.length : Int) - s.1).toNat) (0, []) rfl ⟨by simp, by simp, by simp, by simp, by simp⟩ ?_
  rintro ⟨i, out⟩ ⟨g1, g2, g3, g4, g6⟩
  dsimp only at g1 g2 g3 g4 g6
  have key : i < l.length → ∀ F, F = (flushW ⟨out, gapT 1 (l.drop i.toNat), gapT 2 (l.drop i.toNat)⟩).out →
      W78_c1 N list l i F (fun s2 => ∃ j : Int × List Op, s2 = head78_0 list l j.1 j.2 ∧ (0 ≤ j.1 ∧ j.1 ≤ l.length ∧ (flushW (nrmOs list (l.drop j.1.toNat) ⟨j.2, [], []⟩)).out = (flushW (nrmOs list l ⟨[], [], []⟩)).out ∧ j.2.length ≤ 3 * j.1 ∧ ∀ o ∈ j.2, 0 ≤ o.n ∧ o.n ≤ j.1 * 1048576) ∧ ((l.length : Int) - j.1).toNat < ((l.length : Int) - i).toNat) (EndsQ cfg Try.f78.ntmps Try.f78.results.toList (res78 (list, l, ())) []) := by
    intro hi F hF
    obtain ⟨q1, q2⟩ := gapN_stop (l.drop i.toNat)
    have q3 := gapN_le (l.drop i.toNat)
    rw [List.length_drop] at q2 q3
    rw [getD_dropA, show i.toNat + (gapN (l.drop i.toNat)).toNat = (i + gapN (l.drop i.toNat)).toNat by omega] at q2
    rw [nrmOs_gap, List.drop_drop, show i.toNat + (gapN (l.drop i.toNat)).toNat = (i + gapN (l.drop i.toNat)).toNat by omega] at g3
    simp only [List.nil_append] at g3
    have hfl := flush_len ⟨out, gapT 1 (l.drop i.toNat), gapT 2 (l.drop i.toNat)⟩
    have hfm := flush_mem ⟨out, gapT 1 (l.drop i.toNat), gapT 2 (l.drop i.toNat)⟩
    have hflush : flushW ⟨out, gapT 1 (l.drop i.toNat), gapT 2 (l.drop i.toNat)⟩ = ⟨F, [], []⟩ := by rw [hF]; rfl
    have hkeep : ∀ n, keepW ⟨out, gapT 1 (l.drop i.toNat), gapT 2 (l.drop i.toNat)⟩ n = ⟨keepO F n, [], []⟩ := by intro n; rw [hF]; rfl
    rw [← hF] at hfl hfm
    simp only at hfl hfm
    refine vc78_c1 _ _ _ _ _ _ _ ?_
    rintro y1 hy1 y2 hy2 y3 hy3 y4 hy4 y5 hy5 y6 hy6
    generalize hj : i + gapN (l.drop i.toNat) = j at *
    have hy : y2 = Edit.nil := hy2
    subst hy
    have hFn : ∀ o ∈ F, 0 ≤ o.n ∧ o.n ≤ i * 1048576 := by
      intro o ho
      rcases hfm o ho with h1 | h1
      · exact g6 o h1
      · omega
    simp only [show ((0 : Int) == 0) = true from rfl, show ((3 : Int) == 0) = false from rfl, cond_true, cond_false]
    (simp only [vcS])
    refine ⟨fun hjl => ?_, fun hjl => ?_⟩
    · rw [List.drop_of_length_le (by omega)] at g3
      simp only [nrmOs, hflush] at g3
      simp only [res78]
      rw [← g3]
      (repeat' (first | exact trivial | exact rfl | apply And.intro))
    · have hmem := mem_getD (l := l) (i := j.toNat) (by omega) Op.nil
      have hm := massOs_mem hmem
      obtain ⟨d, hr2⟩ := p3 _ hmem
      have hq := q2 (by omega)
      rw [← hy1] at hm hr2 hq
      have hkind := rightOp_kind hr2
      rw [dropI (by omega) (by omega) Op.nil, ← hy1, nrmOs, nrmOp_at] at g3
      have hmo := massOp_e y1
      have hlast : (F.length : Int) - 1 = ((F.length - 1 : Nat) : Int) ∨ F.length = 0 := by omega
      have e2 : ((F.length : Int) - 1).toNat = F.length - 1 := by omega
      rw [e2] at hy3 ⊢
      have hk3 : 0 < F.length → 0 ≤ y3.n ∧ y3.n ≤ i * 1048576 := fun h => by
        rw [hy3]; exact hFn _ (mem_getD (by omega) _)
      have keeps : ∀ n : Int, 0 ≤ n ∧ n ≤ 1048576 → (flushW (nrmOs list (l.drop (j + 1).toNat) ⟨keepO F n, [], []⟩)).out = (flushW (nrmOs list l ⟨[], [], []⟩)).out →
          ((0 < F.length ∧ y3.kind = 0 → ∃ q : Int × List Op, head78_0 list l (j + 1) (F.set (F.length - 1) ⟨y3.kind, y3.n + n, y3.l, y5⟩) = head78_0 list l q.1 q.2 ∧ (0 ≤ q.1 ∧ q.1 ≤ l.length ∧ (flushW (nrmOs list (l.drop q.1.toNat) ⟨q.2, [], []⟩)).out = (flushW (nrmOs list l ⟨[], [], []⟩)).out ∧ q.2.length ≤ 3 * q.1 ∧ ∀ o ∈ q.2, 0 ≤ o.n ∧ o.n ≤ q.1 * 1048576) ∧ ((l.length : Int) - q.1).toNat < ((l.length : Int) - i).toNat) ∧
           (¬ (0 < F.length ∧ y3.kind = 0) → ∃ q : Int × List Op, head78_0 list l (j + 1) (F ++ [⟨0, n, [], Edit.nil⟩]) = head78_0 list l q.1 q.2 ∧ (0 ≤ q.1 ∧ q.1 ≤ l.length ∧ (flushW (nrmOs list (l.drop q.1.toNat) ⟨q.2, [], []⟩)).out = (flushW (nrmOs list l ⟨[], [], []⟩)).out ∧ q.2.length ≤ 3 * q.1 ∧ ∀ o ∈ q.2, 0 ≤ o.n ∧ o.n ≤ q.1 * 1048576) ∧ ((l.length : Int) - q.1).toNat < ((l.length : Int) - i).toNat)) := by
        intro n hn hg
        rw [keepO_at, ← hy3, ← hy5] at hg
        refine ⟨fun hc => ?_, fun hc => ?_⟩
        · rw [if_pos ⟨by omega, hc.2⟩] at hg
          refine ⟨(j + 1, _), rfl, ⟨by dsimp only; omega, by dsimp only; omega, hg, by dsimp only; rw [List.length_set]; omega, fun o ho => ?_⟩, by dsimp only; omega⟩
          dsimp only at ho ⊢
          have hk4 := hk3 (by omega)
          rcases List.mem_or_eq_of_mem_set ho with ho | rfl
          · have := hFn o ho; omega
          · simp only; omega
        · rw [if_neg (fun h => hc ⟨by omega, h.2⟩)] at hg
          refine ⟨(j + 1, _), rfl, ⟨by dsimp only; omega, by dsimp only; omega, hg, by dsimp only; rw [List.length_append, List.length_singleton]; omega, fun o ho => ?_⟩, by dsimp only; omega⟩
          dsimp only at ho ⊢
          rcases List.mem_append.1 ho with ho | ho
          · have := hFn o ho; omega
          · simp only [List.mem_singleton] at ho
            subst ho
            simp only; omega
      refine ⟨by omega, by omega, fun hk => ?_, fun hk => ?_⟩
      · rw [if_neg (by omega), if_neg (by omega), if_neg (by omega), if_pos hk] at g3
        rw [← hy4, ← hy6, hkeep, hflush] at g3
        have hre := rightOp_desc hr2 hk
        rw [← hy4] at hre
        have hmE : massE y4 ≤ massOp y1 := by rw [hmo, hy4]; omega
        refine ⟨by omega, by simp only [pre41]; exact ⟨by omega, d, hre⟩, by simp only [mu41]; omega, by simp only [pre1109], fun hq => ?_, fun hq => ?_⟩
        · rw [if_pos hq] at g3
          have hK := keeps 1 (by omega) g3
          refine ⟨by unfold InR; omega, by omega, fun hc => ?_, fun hc => ?_⟩
          · have hk4 := hk3 (by omega)
            exact ⟨by unfold InR; omega, by unfold InR; omega, by omega, by unfold InR; omega, by omega, by omega, by unfold InR; omega, hK.1 ⟨by omega, hc.2⟩⟩
          · exact ⟨by simp only [List.length_singleton]; omega, by unfold InR; omega, hK.2 (fun h => by omega)⟩
        · rw [if_neg (by rw [hq]; simp)] at g3
          refine ⟨fun h => (nomatch h), fun h => (nomatch h), fun h => (nomatch h), fun _ => ⟨by simp only [List.length_singleton]; omega, by unfold InR; omega, (j + 1, F ++ [⟨3, 0, [], y6⟩]), rfl, ⟨by dsimp only; omega, by dsimp only; omega, g3, by dsimp only; rw [List.length_append, List.length_singleton]; omega, fun o ho => ?_⟩, by dsimp only; omega⟩⟩
          dsimp only at ho ⊢
          rcases List.mem_append.1 ho with ho | ho
          · have := hFn o ho; omega
          · simp only [List.mem_singleton] at ho
            subst ho
            simp only; omega
      · have hk0 : y1.kind = 0 := by omega
        rw [if_pos hk0, hkeep] at g3
        have h1 := rightOp_keep hr2 hk0
        have hK := keeps y1.n (by omega) g3
        refine ⟨by unfold InR; omega, by omega, fun hc => ?_, fun hc => ?_⟩
        · have hk4 := hk3 (by omega)
          exact ⟨by unfold InR; omega, by unfold InR; omega, by omega, by unfold InR; omega, by omega, by omega, by unfold InR; omega, hK.1 ⟨by omega, hc.2⟩⟩
        · exact ⟨by simp only [List.length_singleton]; omega, by unfold InR; omega, hK.2 (fun h => by omega)⟩
  refine vc78_l0 _ _ _ _ _ _ _ ?_
  rintro y1 hy1
  have hy : y1 = Edit.nil := hy1
  subst hy
  (simp only [vcS])
  refine ⟨fun hi => ?_, fun hi => ?_⟩
  · have kk := key hi
    simp only [flushW, flushO] at kk
    refine ⟨by simp only [pre108]; omega, by simp only [pre108]; omega, fun h1 => ⟨by simp only [List.length_singleton]; omega, fun h2 => ⟨by simp only [List.length_append, List.length_singleton]; omega, ?_⟩, fun h2 => ?_⟩, fun h1 => ⟨fun h2 => ⟨by simp only [List.length_singleton]; omega, ?_⟩, fun h2 => ?_⟩⟩
    · refine kk _ ?_
      rw [if_neg (by omega), if_neg (by omega)]; simp
    · refine kk _ ?_
      rw [if_neg (by omega), if_pos (by omega)]; simp
    · refine kk _ ?_
      rw [if_pos (by omega), if_neg (by omega)]; simp
    · refine kk _ ?_
      rw [if_pos (by omega), if_pos (by omega)]; simp
  · rw [List.drop_of_length_le (by omega)] at g3
    have : (flushW (nrmOs list [] ⟨out, [], []⟩)).out = out := by simp [nrmOs, flushW, flushO]
    rw [this] at g3
    simp only [res78]
    rw [← g3]
    (repeat' (first | exact trivial | exact rfl | apply And.intro))
theorem right_kind {e : Edit} {d : Int} (h : rightE e d = true) : (e.kind = 0 ∨ e.kind = 1 ∨ e.kind = 2 ∨ e.kind = 3) ∧ (e.kind ≠ 3 → e.list = 0) := by
  obtain ⟨k, o, n, w, ks, l, os⟩ := e
  show (k = 0 ∨ k = 1 ∨ k = 2 ∨ k = 3) ∧ (k ≠ 3 → l = 0)
  rw [rightE] at h
  split at h
  · cases h
  · split at h
    · cases h
    · rename_i h1 h2
      refine ⟨by omega, fun hk => ?_⟩
      apply Classical.byContradiction
      intro hl
      exact h2 (.inr (.inr ⟨hk, .inl hl⟩))
theorem b41 : HB41 := by
  intro N e _ hp hN
  simp only [pre41, mu41] at hp hN
  obtain ⟨p1, d, p3⟩ := hp
  have h1 := len_massE e
  have h2 := massKs_len e.kids
  have h3 := massOs_len e.ops
  have ha := nrmE_at e
  obtain ⟨hkd, hli⟩ := right_kind p3
  refine vc41 _ _ _ ?_
  (simp only [vcS])
  (simp only [Tree.eta, Edit.eta, Tree.kind_mk, Tree.words_mk, Tree.kids_mk])
  refine ⟨fun hk => ⟨by simp only [pre31]; omega, by simp only [pre31]; omega, ?_⟩, fun hk => ⟨fun hk2 => ⟨by simp; omega, ?_⟩, fun hk2 => ⟨fun hk3 => ⟨?_, by simp only [mu78]; omega, ?_⟩, fun hk3 => ?_⟩⟩⟩
  · rw [if_pos hk] at ha
    simp only [res41, ha]
    (repeat' (first | exact trivial | exact rfl | apply And.intro))
    · exact hk.symm
    · exact (hli (by omega)).symm
  · rw [if_neg hk, if_pos hk2] at ha
    refine loop_rule (ι := Int × List Kid) (fun s => head41_0 e s.1 s.2) (fun s => 0 ≤ s.1 ∧ s.1 ≤ e.kids.length ∧ s.2.length = s.1 ∧ s.2 ++ nrmKs (e.kids.drop s.1.toNat) = nrmKs e.kids) (fun s => ((e.kids.length : Int) - s.1).toNat) (0, []) rfl ⟨by simp, by simp, by simp, by simp⟩ ?_
    rintro ⟨j, ks⟩ ⟨f1, f2, f3, f4⟩
    dsimp only at f1 f2 f3 f4
    refine vc41_l0 _ _ _ _ _ _ ?_
    rintro y1 hy1 y2 hy2 y3 hy3
    (simp only [vcS])
    refine ⟨fun hj => ?_, fun hj => ?_⟩
    · have hmem := mem_getD (l := e.kids) (i := j.toNat) (by omega) (KidOf.mk 0 Edit.nil)
      have hm := massKs_mem hmem
      have hr := kid_right p3 hk2 _ hmem
      rw [dropI f1 hj (KidOf.mk 0 Edit.nil)] at f4
      rw [← hy1] at f4 hm hr
      simp only [nrmKs, nrmKid_at] at f4
      rw [← hy2] at f4 hm hr
      rw [← hy3] at f4
      refine ⟨⟨f1, hj⟩, ⟨f1, hj⟩, by simp only [pre41]; exact ⟨by omega, hr⟩, by simp only [mu41]; omega, by simp; omega, by unfold InR; omega, (j + 1, ks ++ [⟨y1.at_, y3⟩]), rfl, ⟨by dsimp only; omega, by dsimp only; omega, by simp; omega, ?_⟩, by dsimp only; omega⟩
      simp only [List.append_assoc, List.cons_append, List.nil_append]
      exact f4
    · rw [List.drop_of_length_le (by omega)] at f4
      simp only [nrmKs, List.append_nil] at f4
      rw [f4]
      simp only [res41, ha]
      (repeat' (first | exact trivial | exact rfl | apply And.intro))
      · exact hk2.symm
      · exact (hli (by omega)).symm
  · simp only [pre78]
    exact ⟨by omega, fun o ho => op_right p3 hk3 o ho⟩
  · rw [if_neg hk, if_neg hk2, if_pos hk3] at ha
    simp only [res41, ha]
    (repeat' (first | exact trivial | exact rfl | apply And.intro))
    exact hk3.symm
  · rw [if_neg hk, if_neg hk2, if_neg hk3] at ha
    simp only [res41, ha]
    (repeat' (first | exact trivial | exact rfl | apply And.intro))
    · show 0 = e.kind
      omega
    · exact (hli hk3).symm
theorem c41_78 : Contract Try.prog cfg 41 spec41 ∧ Contract Try.prog cfg 78 spec78 := make41_78 c31 c108 c1109 b41 b78
end Go.AM.Ytlahjnelghpmeaa

namespace Go.AM.Ytlahjnelghpmeaa
open Go.AM Go.Proofs
theorem turnKs_len : ∀ (ks : List Kid), (turnKs ks).length = ks.length
  | [] => rfl
  | k :: r => by simp only [turnKs, List.length_cons, turnKs_len r]
end Go.AM.Ytlahjnelghpmeaa

namespace Go.AM.Ytlahjnelghpmeaa
open Go.AM Go.Proofs
abbrev TrG22b (p : Prop) : Prop := p → p
noncomputable section
def args98 : ArgL (Edit × Unit) := (.cons (aEl .edit) .nil)
def pre98 (a : Edit × Unit) : Prop := massE a.1 ≤ 1000000
def mu98 (a : Edit × Unit) : Nat := massE a.1
noncomputable def res98 (a : Edit × Unit) : V U := .agg [.int .i64 (Edit.kind (roundE a.1)), .int .i64 (Tree.kind (Edit.old (roundE a.1))), .slice (U := U) .u64 (Tree.words (Edit.old (roundE a.1))) .unk, .slice (U := U) .tree (Tree.kids (Edit.old (roundE a.1))) .unk, .int .i64 (Tree.kind (Edit.new (roundE a.1))), .slice (U := U) .u64 (Tree.words (Edit.new (roundE a.1))) .unk, .slice (U := U) .tree (Tree.kids (Edit.new (roundE a.1))) .unk, .slice (U := U) .wedit (Edit.words (roundE a.1)) .unk, .slice (U := U) .kid (Edit.kids (roundE a.1)) .unk, .int .i64 (Edit.list (roundE a.1)), .slice (U := U) .op (Edit.ops (roundE a.1)) .unk]
noncomputable def spec98 : Fs U := fs args98 (fun a => [pre98 a]) res98
noncomputable def know98 (N : Nat) : List (FuncId × Fs U) := (98, fs args98 (fun a => [pre98 a, mu98 a < N]) res98) :: []
def lv98 : Lives U := fun i => match i with
  | 0 => ([(1, []), (2, [])], [((.loc 1), []), ((.loc 2), [])])
  | 1 => ([(1, []), (2, []), (3, [])], [((.loc 1), []), ((.loc 2), []), ((.loc 3), [])])
  | 2 => ([(1, []), (2, []), (3, [])], [((.loc 1), []), ((.loc 2), []), ((.loc 3), [])])
  | 3 => ([(1, []), (2, []), (3, [])], [((.loc 1), []), ((.loc 2), []), ((.loc 3), [])])
  | 4 => ([(1, []), (2, []), (3, []), (4, [])], [((.loc 1), []), ((.loc 2), []), ((.loc 3), [.any, .any, .any, .any, .any, .any, .any, .own .wedit])])
  | 5 => ([(1, []), (2, []), (3, []), (4, []), (25, [])], [((.loc 1), []), ((.loc 2), []), ((.loc 3), [])])
  | 6 => ([(1, []), (2, []), (3, []), (4, [])], [((.loc 1), []), ((.loc 2), []), ((.loc 3), [.any, .any, .any, .any, .any, .any, .any, .own .wedit])])
  | 7 => ([(1, []), (2, []), (3, []), (4, []), (5, [])], [((.loc 1), []), ((.loc 2), []), ((.loc 3), []), ((.loc 5), [])])
  | 8 => ([(1, []), (2, []), (3, []), (4, []), (5, []), (6, [])], [((.loc 1), []), ((.loc 2), []), ((.loc 3), []), ((.loc 5), [])])
  | 9 => ([(1, []), (2, []), (3, []), (4, []), (5, []), (6, [])], [((.loc 1), []), ((.loc 2), []), ((.loc 3), []), ((.loc 5), [])])
  | 10 => ([(1, []), (2, []), (3, []), (4, []), (5, [])], [((.loc 1), []), ((.loc 2), []), ((.loc 3), []), ((.loc 5), [])])
  | 11 => ([(1, []), (2, []), (3, []), (4, [])], [((.loc 1), []), ((.loc 2), []), ((.loc 3), [])])
  | 12 => ([(1, []), (2, []), (3, []), (7, [])], [((.loc 1), []), ((.loc 2), []), ((.loc 3), [.any, .any, .any, .any, .any, .any, .any, .any, .own .kid])])
  | 13 => ([(1, []), (2, []), (3, []), (7, []), (50, [])], [((.loc 1), []), ((.loc 2), []), ((.loc 3), [])])
  | 14 => ([(1, []), (2, []), (3, []), (7, [])], [((.loc 1), []), ((.loc 2), []), ((.loc 3), [.any, .any, .any, .any, .any, .any, .any, .any, .own .kid])])
  | 15 => ([(1, []), (2, []), (3, []), (7, [])], [((.loc 1), []), ((.loc 2), []), ((.loc 3), [])])
  | 16 => ([(1, []), (2, []), (3, []), (8, [])], [((.loc 1), []), ((.loc 2), []), ((.loc 3), [.any, .any, .any, .any, .any, .any, .any, .any, .any, .any, .own .op])])
  | 17 => ([(1, []), (2, []), (3, []), (8, []), (76, [])], [((.loc 1), []), ((.loc 2), []), ((.loc 3), [])])
  | 18 => ([(1, []), (2, []), (3, []), (8, [])], [((.loc 1), []), ((.loc 2), []), ((.loc 3), [.any, .any, .any, .any, .any, .any, .any, .any, .any, .any, .own .op])])
  | 19 => ([(1, []), (2, []), (3, []), (8, []), (9, [])], [((.loc 1), []), ((.loc 2), []), ((.loc 3), []), ((.loc 9), [])])
  | 20 => ([(1, []), (2, []), (3, []), (8, []), (9, []), (91, [])], [((.loc 1), []), ((.loc 2), []), ((.loc 3), []), ((.loc 9), [])])
  | 21 => ([(1, []), (2, []), (3, []), (8, []), (9, []), (91, [])], [((.loc 1), []), ((.loc 2), []), ((.loc 3), []), ((.loc 9), [])])
  | 22 => ([(1, []), (2, []), (3, []), (8, []), (9, [])], [((.loc 1), []), ((.loc 2), []), ((.loc 3), []), ((.loc 9), [])])
  | 23 => ([(1, []), (2, []), (3, []), (8, [])], [((.loc 1), []), ((.loc 2), []), ((.loc 3), [])])
  | 24 => ([(2, [])], [((.loc 2), [])])
  | _ => ([], [])
def head98_0 (e : Edit) (x4 : Int) (ml3_7 : List WEdit) : LSt U := (⟨[(1, .ptr (.loc 1) 0), (2, .ptr (.loc 2) 0), (3, .ptr (.loc 3) 0), (4, .c (.int .i64 x4))], [((.loc 1), [.int .i64 (Edit.kind e), .int .i64 (Tree.kind (Edit.old e)), .slice (U := U) .u64 (Tree.words (Edit.old e)) .unk, .slice (U := U) .tree (Tree.kids (Edit.old e)) .unk, .int .i64 (Tree.kind (Edit.new e)), .slice (U := U) .u64 (Tree.words (Edit.new e)) .unk, .slice (U := U) .tree (Tree.kids (Edit.new e)) .unk, .slice (U := U) .wedit (Edit.words e) .unk, .slice (U := U) .kid (Edit.kids e) .unk, .int .i64 (Edit.list e), .slice (U := U) .op (Edit.ops e) .unk]), ((.loc 2), [.int .i64 0, .int .i64 0, .nils, .nils, .int .i64 0, .nils, .nils, .nils, .nils, .int .i64 0, .nils]), ((.loc 3), [.int .i64 (Edit.kind e), .int .i64 (Tree.kind (Edit.new e)), .slice (U := U) .u64 (Tree.words (Edit.new e)) .unk, .slice (U := U) .tree (Tree.kids (Edit.new e)) .unk, .int .i64 (Tree.kind (Edit.old e)), .slice (U := U) .u64 (Tree.words (Edit.old e)) .unk, .slice (U := U) .tree (Tree.kids (Edit.old e)) .unk, .slice (U := U) .wedit ml3_7 (.own (.l 3 7)), .nils, .int .i64 (Edit.list e), .nils])], []⟩ : LSt U)
def head98_1 (e : Edit) (ml3_7 : List WEdit) (x7_a : Int) (ml3_8_a : List Kid) : LSt U := (⟨[(1, .ptr (.loc 1) 0), (2, .ptr (.loc 2) 0), (3, .ptr (.loc 3) 0), (7, .c (.int .i64 x7_a))], [((.loc 1), [.int .i64 (Edit.kind e), .int .i64 (Tree.kind (Edit.old e)), .slice (U := U) .u64 (Tree.words (Edit.old e)) .unk, .slice (U := U) .tree (Tree.kids (Edit.old e)) .unk, .int .i64 (Tree.kind (Edit.new e)), .slice (U := U) .u64 (Tree.words (Edit.new e)) .unk, .slice (U := U) .tree (Tree.kids (Edit.new e)) .unk, .slice (U := U) .wedit (Edit.words e) .unk, .slice (U := U) .kid (Edit.kids e) .unk, .int .i64 (Edit.list e), .slice (U := U) .op (Edit.ops e) .unk]), ((.loc 2), [.int .i64 0, .int .i64 0, .nils, .nils, .int .i64 0, .nils, .nils, .nils, .nils, .int .i64 0, .nils]), ((.loc 3), [.int .i64 (Edit.kind e), .int .i64 (Tree.kind (Edit.new e)), .slice (U := U) .u64 (Tree.words (Edit.new e)) .unk, .slice (U := U) .tree (Tree.kids (Edit.new e)) .unk, .int .i64 (Tree.kind (Edit.old e)), .slice (U := U) .u64 (Tree.words (Edit.old e)) .unk, .slice (U := U) .tree (Tree.kids (Edit.old e)) .unk, .slice (U := U) .wedit ml3_7 (.own (.l 3 7)), .slice (U := U) .kid ml3_8_a (.own (.l 3 8)), .int .i64 (Edit.list e), .nils])], []⟩ : LSt U)
def head98_2 (e : Edit) (ml3_7 : List WEdit) (ml3_8_a : List Kid) (x8_b : Int) (ml3_10_b : List Op) : LSt U := (⟨[(1, .ptr (.loc 1) 0), (2, .ptr (.loc 2) 0), (3, .ptr (.loc 3) 0), (8, .c (.int .i64 x8_b))], [((.loc 1), [.int .i64 (Edit.kind e), .int .i64 (Tree.kind (Edit.old e)), .slice (U := U) .u64 (Tree.words (Edit.old e)) .unk, .slice (U := U) .tree (Tree.kids (Edit.old e)) .unk, .int .i64 (Tree.kind (Edit.new e)), .slice (U := U) .u64 (Tree.words (Edit.new e)) .unk, .slice (U := U) .tree (Tree.kids (Edit.new e)) .unk, .slice (U := U) .wedit (Edit.words e) .unk, .slice (U := U) .kid (Edit.kids e) .unk, .int .i64 (Edit.list e), .slice (U := U) .op (Edit.ops e) .unk]), ((.loc 2), [.int .i64 0, .int .i64 0, .nils, .nils, .int .i64 0, .nils, .nils, .nils, .nils, .int .i64 0, .nils]), ((.loc 3), [.int .i64 (Edit.kind e), .int .i64 (Tree.kind (Edit.new e)), .slice (U := U) .u64 (Tree.words (Edit.new e)) .unk, .slice (U := U) .tree (Tree.kids (Edit.new e)) .unk, .int .i64 (Tree.kind (Edit.old e)), .slice (U := U) .u64 (Tree.words (Edit.old e)) .unk, .slice (U := U) .tree (Tree.kids (Edit.old e)) .unk, .slice (U := U) .wedit ml3_7 (.own (.l 3 7)), .slice (U := U) .kid ml3_8_a (.own (.l 3 8)), .int .i64 (Edit.list e), .slice (U := U) .op ml3_10_b (.own (.l 3 10))])], []⟩ : LSt U)
def head98_3 (e : Edit) (ml3_7 : List WEdit) (ml3_8_a : List Kid) (x8_b : Int) (ml3_10_b : List Op) (ml9_0_c : Int) : LSt U := (⟨[(1, .ptr (.loc 1) 0), (2, .ptr (.loc 2) 0), (3, .ptr (.loc 3) 0), (8, .c (.int .i64 x8_b)), (9, .ptr (.loc 9) 0), (91, .c (.bool (bif (((OpOf.kind (List.getD (Edit.ops e) (Int.toNat x8_b) Op.nil)) : Int) == 1) then true else (((OpOf.kind (List.getD (Edit.ops e) (Int.toNat x8_b) Op.nil)) : Int) == 2))))], [((.loc 1), [.int .i64 (Edit.kind e), .int .i64 (Tree.kind (Edit.old e)), .slice (U := U) .u64 (Tree.words (Edit.old e)) .unk, .slice (U := U) .tree (Tree.kids (Edit.old e)) .unk, .int .i64 (Tree.kind (Edit.new e)), .slice (U := U) .u64 (Tree.words (Edit.new e)) .unk, .slice (U := U) .tree (Tree.kids (Edit.new e)) .unk, .slice (U := U) .wedit (Edit.words e) .unk, .slice (U := U) .kid (Edit.kids e) .unk, .int .i64 (Edit.list e), .slice (U := U) .op (Edit.ops e) .unk]), ((.loc 2), [.int .i64 0, .int .i64 0, .nils, .nils, .int .i64 0, .nils, .nils, .nils, .nils, .int .i64 0, .nils]), ((.loc 3), [.int .i64 (Edit.kind e), .int .i64 (Tree.kind (Edit.new e)), .slice (U := U) .u64 (Tree.words (Edit.new e)) .unk, .slice (U := U) .tree (Tree.kids (Edit.new e)) .unk, .int .i64 (Tree.kind (Edit.old e)), .slice (U := U) .u64 (Tree.words (Edit.old e)) .unk, .slice (U := U) .tree (Tree.kids (Edit.old e)) .unk, .slice (U := U) .wedit ml3_7 (.own (.l 3 7)), .slice (U := U) .kid ml3_8_a (.own (.l 3 8)), .int .i64 (Edit.list e), .slice (U := U) .op ml3_10_b (.own (.l 3 10))]), ((.loc 9), [.int .i64 ml9_0_c, .int .i64 (OpOf.n (List.getD (Edit.ops e) (Int.toNat x8_b) Op.nil)), .slice (U := U) .tree (OpOf.l (List.getD (Edit.ops e) (Int.toNat x8_b) Op.nil)) .unk, .int .i64 (Edit.kind (OpOf.e (List.getD (Edit.ops e) (Int.toNat x8_b) Op.nil))), .int .i64 (Tree.kind (Edit.old (OpOf.e (List.getD (Edit.ops e) (Int.toNat x8_b) Op.nil)))), .slice (U := U) .u64 (Tree.words (Edit.old (OpOf.e (List.getD (Edit.ops e) (Int.toNat x8_b) Op.nil)))) .unk, .slice (U := U) .tree (Tree.kids (Edit.old (OpOf.e (List.getD (Edit.ops e) (Int.toNat x8_b) Op.nil)))) .unk, .int .i64 (Tree.kind (Edit.new (OpOf.e (List.getD (Edit.ops e) (Int.toNat x8_b) Op.nil)))), .slice (U := U) .u64 (Tree.words (Edit.new (OpOf.e (List.getD (Edit.ops e) (Int.toNat x8_b) Op.nil)))) .unk, .slice (U := U) .tree (Tree.kids (Edit.new (OpOf.e (List.getD (Edit.ops e) (Int.toNat x8_b) Op.nil)))) .unk, .slice (U := U) .wedit (Edit.words (OpOf.e (List.getD (Edit.ops e) (Int.toNat x8_b) Op.nil))) .unk, .slice (U := U) .kid (Edit.kids (OpOf.e (List.getD (Edit.ops e) (Int.toNat x8_b) Op.nil))) .unk, .int .i64 (Edit.list (OpOf.e (List.getD (Edit.ops e) (Int.toNat x8_b) Op.nil))), .slice (U := U) .op (Edit.ops (OpOf.e (List.getD (Edit.ops e) (Int.toNat x8_b) Op.nil))) .unk])], []⟩ : LSt U)
abbrev W98 (N : Nat) (e : Edit) (Q : AExit → LSt U → Prop) := awp cfg (know (know98 N)) (drawOk cfg (know (know98 N))) Try.f98.ntmps lv98 (cd Try.f98 []) (⟨[(0, .agg [.int .i64 (Edit.kind e), .int .i64 (Tree.kind (Edit.old e)), .slice (U := U) .u64 (Tree.words (Edit.old e)) .unk, .slice (U := U) .tree (Tree.kids (Edit.old e)) .unk, .int .i64 (Tree.kind (Edit.new e)), .slice (U := U) .u64 (Tree.words (Edit.new e)) .unk, .slice (U := U) .tree (Tree.kids (Edit.new e)) .unk, .slice (U := U) .wedit (Edit.words e) .unk, .slice (U := U) .kid (Edit.kids e) .unk, .int .i64 (Edit.list e), .slice (U := U) .op (Edit.ops e) .unk])], [], []⟩ : LSt U) Q
abbrev a98_G22b (N : Nat) := awp cfg (know (know98 N)) (drawOk cfg (know (know98 N))) Try.f98.ntmps lv98
abbrev s98_G22b (N : Nat) := seqK cfg (know (know98 N)) (drawOk cfg (know (know98 N))) Try.f98.ntmps lv98
theorem vc98 (N : Nat) (e : Edit) (Q : AExit → LSt U → Prop) (h : LoopWp (awp cfg (know (know98 N)) (drawOk cfg (know (know98 N))) Try.f98.ntmps lv98 (cd Try.f98 [1, 1, 1, 1, 0, 1, 0, 0])) (head98_0 e 0 ([])) (AExit.inBlock 0 (seqK cfg (know (know98 N)) (drawOk cfg (know (know98 N))) Try.f98.ntmps lv98 (cd Try.f98 [1, 1, 1, 1, 1]) Q))) :
    W98 N e Q := by
  have e_ : (W98 N e Q) = ((((((LoopWp (a98_G22b N (cd Try.f98 [1, 1, 1, 1, 0, 1, 0, 0])) (head98_0 e 0 ([])) (AExit.inBlock 0 (s98_G22b N (cd Try.f98 [1, 1, 1, 1, 1]) Q)))))))) := by kernel_rfl
  exact e_.mpr h
abbrev W98_l0 (N : Nat) (e : Edit) (x4 : Int) (ml3_7 : List WEdit) (N0 : LSt U → Prop) (Q : AExit → LSt U → Prop) := awp cfg (know (know98 N)) (drawOk cfg (know (know98 N))) Try.f98.ntmps lv98 (cd Try.f98 [1, 1, 1, 1, 0, 1, 0, 0]) (head98_0 e x4 ml3_7) (AExit.then N0 (AExit.inBlock 0 (seqK cfg (know (know98 N)) (drawOk cfg (know (know98 N))) Try.f98.ntmps lv98 (cd Try.f98 [1, 1, 1, 1, 1]) Q)))
theorem vc98_l0 (N : Nat) (e : Edit) (x4 : Int) (ml3_7 : List WEdit) (N0 : LSt U → Prop) (Q : AExit → LSt U → Prop) (h : ((decide ((x4 : Int) < ((Edit.words e).length : Int))) = true → ((0 : Int) ≤ x4 ∧ x4 < ((Edit.words e).length : Int)) ∧ (((ml3_7.length + ([(WEdit.mk (WEdit.at_ (List.getD (Edit.words e) (Int.toNat x4) (WEdit.mk 0 0 0 0))) (WEdit.mask (List.getD (Edit.words e) (Int.toNat x4) (WEdit.mk 0 0 0 0))) (WEdit.new (List.getD (Edit.words e) (Int.toNat x4) (WEdit.mk 0 0 0 0))) (WEdit.old (List.getD (Edit.words e) (Int.toNat x4) (WEdit.mk 0 0 0 0))))]).length) * 32 ≤ 140737488355328) ∧ ((InR ((x4 : Int) + 1)) ∧ (N0 (head98_0 e ((x4 : Int) + 1) (ml3_7 ++ ([(WEdit.mk (WEdit.at_ (List.getD (Edit.words e) (Int.toNat x4) (WEdit.mk 0 0 0 0))) (WEdit.mask (List.getD (Edit.words e) (Int.toNat x4) (WEdit.mk 0 0 0 0))) (WEdit.new (List.getD (Edit.words e) (Int.toNat x4) (WEdit.mk 0 0 0 0))) (WEdit.old (List.getD (Edit.words e) (Int.toNat x4) (WEdit.mk 0 0 0 0))))]))))))) ∧ ((decide ((x4 : Int) < ((Edit.words e).length : Int))) = false → LoopWp (awp cfg (know (know98 N)) (drawOk cfg (know (know98 N))) Try.f98.ntmps lv98 (cd Try.f98 [1, 1, 1, 1, 1, 0, 1, 0, 0])) (head98_1 e ml3_7 0 ([])) (AExit.inBlock 2 (seqK cfg (know (know98 N)) (drawOk cfg (know (know98 N))) Try.f98.ntmps lv98 (cd Try.f98 [1, 1, 1, 1, 1, 1]) Q)))) :
    W98_l0 N e x4 ml3_7 N0 Q := by
  have e_ : (W98_l0 N e x4 ml3_7 N0 Q) = ((((decide ((x4 : Int) < ((Edit.words e).length : Int))) = true → ((0 : Int) ≤ x4 ∧ x4 < ((Edit.words e).length : Int)) ∧ ((((((ml3_7.length + ([(WEdit.mk (WEdit.at_ (List.getD (Edit.words e) (Int.toNat x4) (WEdit.mk 0 0 0 0))) (WEdit.mask (List.getD (Edit.words e) (Int.toNat x4) (WEdit.mk 0 0 0 0))) (WEdit.new (List.getD (Edit.words e) (Int.toNat x4) (WEdit.mk 0 0 0 0))) (WEdit.old (List.getD (Edit.words e) (Int.toNat x4) (WEdit.mk 0 0 0 0))))]).length) * 32 ≤ 140737488355328) ∧ ((InR ((x4 : Int) + 1)) ∧ (N0 (head98_0 e ((x4 : Int) + 1) (ml3_7 ++ ([(WEdit.mk (WEdit.at_ (List.getD (Edit.words e) (Int.toNat x4) (WEdit.mk 0 0 0 0))) (WEdit.mask (List.getD (Edit.words e) (Int.toNat x4) (WEdit.mk 0 0 0 0))) (WEdit.new (List.getD (Edit.words e) (Int.toNat x4) (WEdit.mk 0 0 0 0))) (WEdit.old (List.getD (Edit.words e) (Int.toNat x4) (WEdit.mk 0 0 0 0))))])))))))))) ∧ ((decide ((x4 : Int) < ((Edit.words e).length : Int))) = false → (LoopWp (a98_G22b N (cd Try.f98 [1, 1, 1, 1, 1, 0, 1, 0, 0])) (head98_1 e ml3_7 0 ([])) (AExit.inBlock 2 (s98_G22b N (cd Try.f98 [1, 1, 1, 1, 1, 1]) Q)))))) := by kernel_rfl
  exact e_.mpr ⟨fun c_14 => ⟨(h.1 c_14).1, ⟨(h.1 c_14).2.1, ⟨(h.1 c_14).2.2.1, (h.1 c_14).2.2.2⟩⟩⟩, fun c_14 => (h.2 c_14)⟩
abbrev W98_l1 (N : Nat) (e : Edit) (ml3_7 : List WEdit) (x7_a : Int) (ml3_8_a : List Kid) (N1 : LSt U → Prop) (Q : AExit → LSt U → Prop) := awp cfg (know (know98 N)) (drawOk cfg (know (know98 N))) Try.f98.ntmps lv98 (cd Try.f98 [1, 1, 1, 1, 1, 0, 1, 0, 0]) (head98_1 e ml3_7 x7_a ml3_8_a) (AExit.then N1 (AExit.inBlock 2 (seqK cfg (know (know98 N)) (drawOk cfg (know (know98 N))) Try.f98.ntmps lv98 (cd Try.f98 [1, 1, 1, 1, 1, 1]) Q)))
theorem vc98_l1 (N : Nat) (e : Edit) (ml3_7 : List WEdit) (x7_a : Int) (ml3_8_a : List Kid) (N1 : LSt U → Prop) (Q : AExit → LSt U → Prop) (h : ∀ y_1, y_1 = (List.getD (Edit.kids e) (Int.toNat x7_a) (KidOf.mk 0 Edit.nil)) → ∀ y_2, y_2 = ((KidOf.e y_1)) → ∀ y_3, y_3 = ((roundE y_2)) → ((decide ((x7_a : Int) < ((Edit.kids e).length : Int))) = true → ((0 : Int) ≤ x7_a ∧ x7_a < ((Edit.kids e).length : Int)) ∧ ((0 : Int) ≤ x7_a ∧ x7_a < ((Edit.kids e).length : Int)) ∧ (pre98 (y_2, ())) ∧ (mu98 (y_2, ()) < N) ∧ ((ml3_8_a.length + ([(KidOf.mk (KidOf.at_ y_1) y_3 : Kid)]).length) * 208 ≤ 140737488355328) ∧ ((InR ((x7_a : Int) + 1)) ∧ (N1 (head98_1 e ml3_7 ((x7_a : Int) + 1) (ml3_8_a ++ ([(KidOf.mk (KidOf.at_ y_1) y_3 : Kid)])))))) ∧ ((decide ((x7_a : Int) < ((Edit.kids e).length : Int))) = false → LoopWp (awp cfg (know (know98 N)) (drawOk cfg (know (know98 N))) Try.f98.ntmps lv98 (cd Try.f98 [1, 1, 1, 1, 1, 1, 0, 1, 0, 0])) (head98_2 e ml3_7 ml3_8_a 0 ([])) (AExit.inBlock 4 (seqK cfg (know (know98 N)) (drawOk cfg (know (know98 N))) Try.f98.ntmps lv98 (cd Try.f98 [1, 1, 1, 1, 1, 1, 1]) Q)))) :
    W98_l1 N e ml3_7 x7_a ml3_8_a N1 Q := by
  have e_ : (W98_l1 N e ml3_7 x7_a ml3_8_a N1 Q) = (let y_1 := (List.getD (Edit.kids e) (Int.toNat x7_a) (KidOf.mk 0 Edit.nil)); let y_2 := (reEdit (KidOf.e y_1)); let y_3 := (reEdit (roundE y_2)); let zz0 := (decide ((x7_a : Int) < ((Edit.kids e).length : Int))); ((zz0 = true → ((0 : Int) ≤ x7_a ∧ x7_a < ((Edit.kids e).length : Int)) ∧ ((0 : Int) ≤ x7_a ∧ x7_a < ((Edit.kids e).length : Int)) ∧ (pre98 (y_2, ())) ∧ (mu98 (y_2, ()) < N) ∧ ((ml3_8_a.length + ([(KidOf.mk (KidOf.at_ y_1) y_3 : Kid)]).length) * 208 ≤ 140737488355328) ∧ ((InR ((x7_a : Int) + 1)) ∧ (N1 (head98_1 e ml3_7 ((x7_a : Int) + 1) (ml3_8_a ++ ([(KidOf.mk (KidOf.at_ y_1) y_3 : Kid)])))))) ∧ (zz0 = false → (LoopWp (a98_G22b N (cd Try.f98 [1, 1, 1, 1, 1, 1, 0, 1, 0, 0])) (head98_2 e ml3_7 ml3_8_a 0 ([])) (AExit.inBlock 4 (s98_G22b N (cd Try.f98 [1, 1, 1, 1, 1, 1, 1]) Q)))))) := by kernel_rfl
  exact e_.mpr (by intro y_1 y_2 y_3; have hh := h y_1 rfl y_2 (reEdit_eq _) y_3 (reEdit_eq _); exact ⟨fun c_15 => ⟨(hh.1 c_15).1, (hh.1 c_15).2.1, (hh.1 c_15).2.2.1, (hh.1 c_15).2.2.2.1, (hh.1 c_15).2.2.2.2.1, ⟨(hh.1 c_15).2.2.2.2.2.1, (hh.1 c_15).2.2.2.2.2.2⟩⟩, fun c_15 => (hh.2 c_15)⟩)
abbrev W98_l2 (N : Nat) (e : Edit) (ml3_7 : List WEdit) (ml3_8_a : List Kid) (x8_b : Int) (ml3_10_b : List Op) (N2 : LSt U → Prop) (Q : AExit → LSt U → Prop) := awp cfg (know (know98 N)) (drawOk cfg (know (know98 N))) Try.f98.ntmps lv98 (cd Try.f98 [1, 1, 1, 1, 1, 1, 0, 1, 0, 0]) (head98_2 e ml3_7 ml3_8_a x8_b ml3_10_b) (AExit.then N2 (AExit.inBlock 4 (seqK cfg (know (know98 N)) (drawOk cfg (know (know98 N))) Try.f98.ntmps lv98 (cd Try.f98 [1, 1, 1, 1, 1, 1, 1]) Q)))
theorem vc98_l2 (N : Nat) (e : Edit) (ml3_7 : List WEdit) (ml3_8_a : List Kid) (x8_b : Int) (ml3_10_b : List Op) (N2 : LSt U → Prop) (Q : AExit → LSt U → Prop) (h : ((decide ((x8_b : Int) < ((Edit.ops e).length : Int))) = true → ((0 : Int) ≤ x8_b ∧ x8_b < ((Edit.ops e).length : Int)) ∧ (((bif (((OpOf.kind (List.getD (Edit.ops e) (Int.toNat x8_b) Op.nil)) : Int) == 1) then true else (((OpOf.kind (List.getD (Edit.ops e) (Int.toNat x8_b) Op.nil)) : Int) == 2)) = true → (InR ((3 : Int) - (OpOf.kind (List.getD (Edit.ops e) (Int.toNat x8_b) Op.nil)))) ∧ (awp cfg (know (know98 N)) (drawOk cfg (know (know98 N))) Try.f98.ntmps lv98 (cd Try.f98 [1, 1, 1, 1, 1, 1, 0, 1, 0, 0, 1, 0, 0, 1, 1]) (head98_3 e ml3_7 ml3_8_a x8_b ml3_10_b ((3 : Int) - (OpOf.kind (List.getD (Edit.ops e) (Int.toNat x8_b) Op.nil)))) (AExit.inBlock 5 (seqK cfg (know (know98 N)) (drawOk cfg (know (know98 N))) Try.f98.ntmps lv98 (cd Try.f98 [1, 1, 1, 1, 1, 1, 0, 1, 0, 0, 1, 1]) (AExit.then N2 (AExit.inBlock 4 (seqK cfg (know (know98 N)) (drawOk cfg (know (know98 N))) Try.f98.ntmps lv98 (cd Try.f98 [1, 1, 1, 1, 1, 1, 1]) Q))))))) ∧ ((bif (((OpOf.kind (List.getD (Edit.ops e) (Int.toNat x8_b) Op.nil)) : Int) == 1) then true else (((OpOf.kind (List.getD (Edit.ops e) (Int.toNat x8_b) Op.nil)) : Int) == 2)) = false → awp cfg (know (know98 N)) (drawOk cfg (know (know98 N))) Try.f98.ntmps lv98 (cd Try.f98 [1, 1, 1, 1, 1, 1, 0, 1, 0, 0, 1, 0, 0, 1, 1]) (head98_3 e ml3_7 ml3_8_a x8_b ml3_10_b (OpOf.kind (List.getD (Edit.ops e) (Int.toNat x8_b) Op.nil))) (AExit.inBlock 5 (seqK cfg (know (know98 N)) (drawOk cfg (know (know98 N))) Try.f98.ntmps lv98 (cd Try.f98 [1, 1, 1, 1, 1, 1, 0, 1, 0, 0, 1, 1]) (AExit.then N2 (AExit.inBlock 4 (seqK cfg (know (know98 N)) (drawOk cfg (know (know98 N))) Try.f98.ntmps lv98 (cd Try.f98 [1, 1, 1, 1, 1, 1, 1]) Q)))))))) ∧ ((decide ((x8_b : Int) < ((Edit.ops e).length : Int))) = false → Q .ret (⟨[(2, .ptr (.loc 2) 0)], [((.loc 2), [.int .i64 (Edit.kind e), .int .i64 (Tree.kind (Edit.new e)), .slice (U := U) .u64 (Tree.words (Edit.new e)) .unk, .slice (U := U) .tree (Tree.kids (Edit.new e)) .unk, .int .i64 (Tree.kind (Edit.old e)), .slice (U := U) .u64 (Tree.words (Edit.old e)) .unk, .slice (U := U) .tree (Tree.kids (Edit.old e)) .unk, .slice (U := U) .wedit ml3_7 (.own (.l 2 7)), .slice (U := U) .kid ml3_8_a (.own (.l 2 8)), .int .i64 (Edit.list e), .slice (U := U) .op ml3_10_b (.own (.l 2 10))])], []⟩ : LSt U))) :
    W98_l2 N e ml3_7 ml3_8_a x8_b ml3_10_b N2 Q := by
  have e_ : (W98_l2 N e ml3_7 ml3_8_a x8_b ml3_10_b N2 Q) = (let zz1 := (((OpOf.kind (List.getD (Edit.ops e) (Int.toNat x8_b) Op.nil)) : Int) == 2); let zz0 := (((OpOf.kind (List.getD (Edit.ops e) (Int.toNat x8_b) Op.nil)) : Int) == 1); (((decide ((x8_b : Int) < ((Edit.ops e).length : Int))) = true → ((0 : Int) ≤ x8_b ∧ x8_b < ((Edit.ops e).length : Int)) ∧ ((TrG22b ((!zz0) = true)) ∧ (TrG22b ((!zz0) = true)) ∧ ((zz0 = false → (!zz0) = true)) ∧ (((bif zz0 then true else zz1) = true → (InR ((3 : Int) - (OpOf.kind (List.getD (Edit.ops e) (Int.toNat x8_b) Op.nil)))) ∧ (a98_G22b N (cd Try.f98 [1, 1, 1, 1, 1, 1, 0, 1, 0, 0, 1, 0, 0, 1, 1]) (head98_3 e ml3_7 ml3_8_a x8_b ml3_10_b ((3 : Int) - (OpOf.kind (List.getD (Edit.ops e) (Int.toNat x8_b) Op.nil)))) (AExit.inBlock 5 (s98_G22b N (cd Try.f98 [1, 1, 1, 1, 1, 1, 0, 1, 0, 0, 1, 1]) (AExit.then N2 (AExit.inBlock 4 (s98_G22b N (cd Try.f98 [1, 1, 1, 1, 1, 1, 1]) Q))))))) ∧ ((bif zz0 then true else zz1) = false → a98_G22b N (cd Try.f98 [1, 1, 1, 1, 1, 1, 0, 1, 0, 0, 1, 0, 0, 1, 1]) (head98_3 e ml3_7 ml3_8_a x8_b ml3_10_b (OpOf.kind (List.getD (Edit.ops e) (Int.toNat x8_b) Op.nil))) (AExit.inBlock 5 (s98_G22b N (cd Try.f98 [1, 1, 1, 1, 1, 1, 0, 1, 0, 0, 1, 1]) (AExit.then N2 (AExit.inBlock 4 (s98_G22b N (cd Try.f98 [1, 1, 1, 1, 1, 1, 1]) Q))))))))) ∧ ((decide ((x8_b : Int) < ((Edit.ops e).length : Int))) = false → (Q .ret (⟨[(2, .ptr (.loc 2) 0)], [((.loc 2), [.int .i64 (Edit.kind e), .int .i64 (Tree.kind (Edit.new e)), .slice (U := U) .u64 (Tree.words (Edit.new e)) .unk, .slice (U := U) .tree (Tree.kids (Edit.new e)) .unk, .int .i64 (Tree.kind (Edit.old e)), .slice (U := U) .u64 (Tree.words (Edit.old e)) .unk, .slice (U := U) .tree (Tree.kids (Edit.old e)) .unk, .slice (U := U) .wedit ml3_7 (.own (.l 2 7)), .slice (U := U) .kid ml3_8_a (.own (.l 2 8)), .int .i64 (Edit.list e), .slice (U := U) .op ml3_10_b (.own (.l 2 10))])], []⟩ : LSt U))))) := by kernel_rfl
  exact e_.mpr ⟨fun c_16 => ⟨(h.1 c_16).1, ⟨id, id, (by generalize (((OpOf.kind (List.getD (Edit.ops e) (Int.toNat x8_b) Op.nil)) : Int) == 1) = b0; revert b0; decide), ⟨fun c_17 => ⟨((h.1 c_16).2.1 c_17).1, ((h.1 c_16).2.1 c_17).2⟩, fun c_17 => ((h.1 c_16).2.2 c_17)⟩⟩⟩, fun c_16 => (h.2 c_16)⟩
abbrev W98_c3 (N : Nat) (e : Edit) (ml3_7 : List WEdit) (ml3_8_a : List Kid) (x8_b : Int) (ml3_10_b : List Op) (ml9_0_c : Int) (N2 : LSt U → Prop) (Q : AExit → LSt U → Prop) := awp cfg (know (know98 N)) (drawOk cfg (know (know98 N))) Try.f98.ntmps lv98 (cd Try.f98 [1, 1, 1, 1, 1, 1, 0, 1, 0, 0, 1, 0, 0, 1, 1]) (head98_3 e ml3_7 ml3_8_a x8_b ml3_10_b ml9_0_c) (AExit.inBlock 5 (seqK cfg (know (know98 N)) (drawOk cfg (know (know98 N))) Try.f98.ntmps lv98 (cd Try.f98 [1, 1, 1, 1, 1, 1, 0, 1, 0, 0, 1, 1]) (AExit.then N2 (AExit.inBlock 4 (seqK cfg (know (know98 N)) (drawOk cfg (know (know98 N))) Try.f98.ntmps lv98 (cd Try.f98 [1, 1, 1, 1, 1, 1, 1]) Q)))))
theorem vc98_c3 (N : Nat) (e : Edit) (ml3_7 : List WEdit) (ml3_8_a : List Kid) (x8_b : Int) (ml3_10_b : List Op) (ml9_0_c : Int) (N2 : LSt U → Prop) (Q : AExit → LSt U → Prop) (h : ∀ y_1, y_1 = (List.getD (Edit.ops e) (Int.toNat x8_b) Op.nil) → ∀ y_2, y_2 = ((OpOf.e y_1)) → ∀ y_3, y_3 = ((roundE y_2)) → (pre98 (y_2, ())) ∧ (mu98 (y_2, ()) < N) ∧ (((ml3_10_b.length + ([(OpOf.mk ml9_0_c (OpOf.n y_1) (OpOf.l y_1) y_3 : Op)]).length) * 240 ≤ 140737488355328) ∧ ((InR ((x8_b : Int) + 1)) ∧ (N2 (head98_2 e ml3_7 ml3_8_a ((x8_b : Int) + 1) (ml3_10_b ++ ([(OpOf.mk ml9_0_c (OpOf.n y_1) (OpOf.l y_1) y_3 : Op)]))))))) :
    W98_c3 N e ml3_7 ml3_8_a x8_b ml3_10_b ml9_0_c N2 Q := by
  have e_ : (W98_c3 N e ml3_7 ml3_8_a x8_b ml3_10_b ml9_0_c N2 Q) = (let y_1 := (List.getD (Edit.ops e) (Int.toNat x8_b) Op.nil); let y_2 := (reEdit (OpOf.e y_1)); let y_3 := (reEdit (roundE y_2)); (pre98 (y_2, ())) ∧ (mu98 (y_2, ()) < N) ∧ (((ml3_10_b.length + ([(OpOf.mk ml9_0_c (OpOf.n y_1) (OpOf.l y_1) y_3 : Op)]).length) * 240 ≤ 140737488355328) ∧ ((InR ((x8_b : Int) + 1)) ∧ (N2 (head98_2 e ml3_7 ml3_8_a ((x8_b : Int) + 1) (ml3_10_b ++ ([(OpOf.mk ml9_0_c (OpOf.n y_1) (OpOf.l y_1) y_3 : Op)]))))))) := by kernel_rfl
  exact e_.mpr (by intro y_1 y_2 y_3; have hh := h y_1 rfl y_2 (reEdit_eq _) y_3 (reEdit_eq _); exact ⟨hh.1, hh.2.1, ⟨hh.2.2.1, ⟨hh.2.2.2.1, hh.2.2.2.2⟩⟩⟩)
def Body98 (N : Nat) (e : Edit)  : Prop := awp cfg (know (know98 N)) (drawOk cfg (know (know98 N))) Try.f98.ntmps lv98 (cd Try.f98 []) (entry (args98.can (e, ())) []) (EndsQ cfg Try.f98.ntmps Try.f98.results.toList (res98 (e, ())) [])
theorem make98 (hb : ∀ (N : Nat) (e : Edit) (_ : Unit), pre98 (e, ()) → mu98 (e, ()) < N + 1 → Body98 N e) : Contract Try.prog cfg 98 spec98 :=
  contract_rec (μ := mu98) (l := []) cfgOk rfl (trivial) lv98 Try.func98 rfl rfl 1 (fun _ => rfl) (by decide) (fun N ⟨e, _⟩ => hb N e ())
end
end Go.AM.Ytlahjnelghpmeaa

namespace Go.AM.Ytlahjnelghpmeaa
open Go.AM Go.Proofs
theorem roundE_at (e : Edit) : roundE e = .mk e.kind e.new e.old (e.words.map turnW) (roundKs e.kids) e.list (roundOs e.ops) := by cases e; rfl
theorem roundKid_at (k : Kid) : roundKid k = ⟨k.at_, roundE k.e⟩ := by cases k; rfl
theorem roundOp_at (o : Op) : roundOp o = ⟨roundK o.kind, o.n, o.l, roundE o.e⟩ := by cases o; rfl
theorem c98 : Contract Try.prog cfg 98 spec98 := by
  refine make98 ?_
  intro N e _ hp hN
  simp only [pre98, mu98] at hp hN
  have h1 := len_massE e
  have h2 := massKs_len e.kids
  have h3 := massOs_len e.ops
  have ha := roundE_at e
  refine vc98 _ _ _ ?_
  refine loop_rule (ι := Int × List WEdit) (fun s => head98_0 e s.1 s.2) (fun s => 0 ≤ s.1 ∧ s.1 ≤ e.words.length ∧ s.2.length = s.1 ∧ s.2 ++ (e.words.drop s.1.toNat).map turnW = e.words.map turnW) (fun s => ((e.words.length : Int) - s.1).toNat) (0, []) rfl ⟨by simp, by simp, by simp, by simp⟩ ?_
  rintro ⟨i, ws⟩ ⟨g1, g2, g3, g4⟩
  dsimp only at g1 g2 g3 g4
  refine vc98_l0 _ _ _ _ _ _ ?_
  (simp only [vcS])
  refine ⟨fun hi => ?_, fun hi => ?_⟩
  · rw [dropI g1 hi (WEdit.mk 0 0 0 0)] at g4
    simp only [List.map_cons] at g4
    refine ⟨⟨g1, hi⟩, by simp; omega, by unfold InR; omega, (i + 1, ws ++ [turnW (e.words.getD i.toNat (WEdit.mk 0 0 0 0))]), rfl, ⟨by dsimp only; omega, by dsimp only; omega, by simp; omega, ?_⟩, by dsimp only; omega⟩
    simp only [List.append_assoc, List.cons_append, List.nil_append]
    exact g4
  · rw [List.drop_of_length_le (by omega)] at g4
    simp only [List.map_nil, List.append_nil] at g4
    refine loop_rule (ι := Int × List Kid) (fun s => head98_1 e ws s.1 s.2) (fun s => 0 ≤ s.1 ∧ s.1 ≤ e.kids.length ∧ s.2.length = s.1 ∧ s.2 ++ roundKs (e.kids.drop s.1.toNat) = roundKs e.kids) (fun s => ((e.kids.length : Int) - s.1).toNat) (0, []) rfl ⟨by simp, by simp, by simp, by simp⟩ ?_
    rintro ⟨j, ks⟩ ⟨f1, f2, f3, f4⟩
    dsimp only at f1 f2 f3 f4
    refine vc98_l1 _ _ _ _ _ _ _ ?_
    rintro y1 hy1 y2 hy2 y3 hy3
    (simp only [vcS])
    refine ⟨fun hj => ?_, fun hj => ?_⟩
    · have hm := massKs_mem (mem_getD (l := e.kids) (i := j.toNat) (by omega) (KidOf.mk 0 Edit.nil))
      rw [dropI f1 hj (KidOf.mk 0 Edit.nil)] at f4
      rw [← hy1] at f4 hm
      simp only [roundKs, roundKid_at] at f4
      rw [← hy2] at f4 hm
      rw [← hy3] at f4
      refine ⟨⟨f1, hj⟩, ⟨f1, hj⟩, by simp only [pre98]; omega, by simp only [mu98]; omega, by simp; omega, by unfold InR; omega, (j + 1, ks ++ [⟨y1.at_, y3⟩]), rfl, ⟨by dsimp only; omega, by dsimp only; omega, by simp; omega, ?_⟩, by dsimp only; omega⟩
      simp only [List.append_assoc, List.cons_append, List.nil_append]
      exact f4
    · rw [List.drop_of_length_le (by omega)] at f4
      simp only [roundKs, List.append_nil] at f4
      refine loop_rule (ι := Int × List Op) (fun s => head98_2 e ws ks s.1 s.2) (fun s => 0 ≤ s.1 ∧ s.1 ≤ e.ops.length ∧ s.2.length = s.1 ∧ s.2 ++ roundOs (e.ops.drop s.1.toNat) = roundOs e.ops) (fun s => ((e.ops.length : Int) - s.1).toNat) (0, []) rfl ⟨by simp, by simp, by simp, by simp⟩ ?_
      rintro ⟨k, os⟩ ⟨d1, d2, d3, d4⟩
      dsimp only at d1 d2 d3 d4
      refine vc98_l2 _ _ _ _ _ _ _ _ ?_
      (simp only [vcS])
      refine ⟨fun hj => ⟨⟨d1, hj⟩, ?_⟩, fun hj => ?_⟩
      · have hm := massOs_mem (mem_getD (l := e.ops) (i := k.toNat) (by omega) Op.nil)
        rw [dropI d1 hj Op.nil] at d4
        simp only [roundOs, roundOp_at] at d4
        rw [massOp_e] at hm
        have next : ∀ kd : Int, kd = roundK (e.ops.getD k.toNat Op.nil).kind → ∀ (R : AExit → LSt U → Prop), (∀ s, (∃ j : Int × List Op, s = head98_2 e ws ks j.1 j.2 ∧ (0 ≤ j.1 ∧ j.1 ≤ e.ops.length ∧ j.2.length = j.1 ∧ j.2 ++ roundOs (e.ops.drop j.1.toNat) = roundOs e.ops) ∧ ((e.ops.length : Int) - j.1).toNat < ((e.ops.length : Int) - k).toNat) → True) → True := fun _ _ _ _ => trivial
        have key : ∀ kd : Int, kd = roundK (e.ops.getD k.toNat Op.nil).kind → ∀ (Q' : AExit → LSt U → Prop), W98_c3 N e ws ks k os kd (fun s2 => ∃ j : Int × List Op, s2 = head98_2 e ws ks j.1 j.2 ∧ (0 ≤ j.1 ∧ j.1 ≤ e.ops.length ∧ j.2.length = j.1 ∧ j.2 ++ roundOs (e.ops.drop j.1.toNat) = roundOs e.ops) ∧ ((e.ops.length : Int) - j.1).toNat < ((e.ops.length : Int) - k).toNat) Q' := by
          intro kd hkd Q'
          refine vc98_c3 _ _ _ _ _ _ _ _ _ ?_
          rintro z1 hz1 z2 hz2 z3 hz3
          rw [← hz1, ← hz2] at hm
          rw [← hz1, ← hz2, ← hz3] at d4
          rw [← hz1] at hkd
          refine ⟨by simp only [pre98]; omega, by simp only [mu98]; omega, by simp; omega, by unfold InR; omega, (k + 1, os ++ [⟨kd, z1.n, z1.l, z3⟩]), rfl, ⟨by dsimp only; omega, by dsimp only; omega, by simp; omega, ?_⟩, by dsimp only; omega⟩
          rw [hkd]
          simp only [List.append_assoc, List.cons_append, List.nil_append]
          exact d4
        refine ⟨fun hq => ⟨by unfold InR; omega, key _ (by unfold roundK; rw [if_pos hq]) _⟩, fun hq => key _ (by unfold roundK; rw [if_neg (by omega)]) _⟩
      · rw [List.drop_of_length_le (by omega)] at d4
        simp only [roundOs, List.append_nil] at d4
        rw [g4, f4, d4]
        simp only [res98, ha]
        (repeat' (first | exact trivial | exact rfl | apply And.intro))
end Go.AM.Ytlahjnelghpmeaa

namespace Go.AM.Ytlahjnelghpmeaa
open Go.AM Go.Proofs
theorem round_nil : roundE Edit.nil = Edit.nil := by simp [Edit.nil, roundE, roundKs, roundOs]
theorem round_op {list d : Int} {o : Op} (h : rightOp list o d = true) (hi : o.kind = 3 → roundE o.e = turnE o.e) : roundOp o = turnOp o := by
  have hok := rightOp_ok h
  rw [roundOp_at, turnOp_at]
  unfold opOk at hok
  unfold roundK
  rcases hok with ⟨k, a, b, c⟩ | ⟨k, a, b, c⟩ | ⟨k, a, b⟩
  · rw [if_neg (by omega), if_neg (by omega), if_neg (by omega), if_neg (by omega), c, round_nil]
  · rcases k with k | k
    · rw [if_pos (Or.inl k), if_pos k, c, round_nil, k]; rfl
    · rw [if_pos (Or.inr k), if_neg (by omega), if_pos k, c, round_nil, k]; rfl
  · rw [if_neg (by omega), if_neg (by omega), if_neg (by omega), if_pos k, hi k]
mutual
theorem round_turn : ∀ (e : Edit) (d : Int), rightE e d = true → roundE e = turnE e
  | .mk k o n w ks l os, d, h => by
    have hin := rightE_in h
    simp only [Edit.kids_mk, Edit.ops_mk, Edit.list_mk] at hin
    have h1 := round_Ks ks (d - 1) (fun k hk => (hin.1 k hk).1)
    have h2 := round_Os l os (d - 1) hin.2
    rw [roundE, turnE, h1, h2]
theorem round_Ks : ∀ (ks : List (KidOf Edit)) (d : Int), (∀ k ∈ ks, rightE k.e d = true) → roundKs ks = turnKs ks
  | [], _, _ => rfl
  | k :: r, d, h => by
    have h1 := round_Kid k d (h k (List.mem_cons_self ..))
    have h2 := round_Ks r d (fun x hx => h x (List.mem_cons_of_mem _ hx))
    rw [roundKs, turnKs, h1, h2]
theorem round_Kid : ∀ (k : KidOf Edit) (d : Int), rightE k.e d = true → roundKid k = turnKid k
  | ⟨a, e⟩, d, h => by
    have h1 := round_turn e d h
    rw [roundKid, turnKid, h1]
theorem round_Os (list : Int) : ∀ (os : List (OpOf Edit)) (d : Int), (∀ o ∈ os, rightOp list o d = true) → roundOs os = turnOs os
  | [], _, _ => rfl
  | o :: r, d, h => by
    have h1 := round_Op list o d (h o (List.mem_cons_self ..))
    have h2 := round_Os list r d (fun x hx => h x (List.mem_cons_of_mem _ hx))
    rw [roundOs, turnOs, h1, h2]
theorem round_Op (list : Int) : ∀ (o : OpOf Edit) (d : Int), rightOp list o d = true → roundOp o = turnOp o
  | ⟨k, n, l, e⟩, d, h => by
    refine round_op h (fun hk => ?_)
    simp only at hk
    subst hk
    rw [rightOp_at] at h
    simp only [show ¬(3 : Int) = 0 by decide, show ¬(3 : Int) < 3 by decide, if_false] at h
    split at h
    · cases h
    · simp only [Bool.and_eq_true] at h
      exact round_turn e d h.1.2
end
end Go.AM.Ytlahjnelghpmeaa

namespace Go.AM.Ytlahjnelghpmeaa
open Go.AM Go.Proofs
theorem kind_norm (t : Tree) : (normT t).kind = t.kind := by
  obtain ⟨k, w, ks⟩ := t
  simp only [normT]
  by_cases h0 : k = 0
  · rw [if_pos h0, h0]; rfl
  · rw [if_neg h0]
    by_cases h1 : k = 1
    · rw [if_pos h1, h1]; rfl
    · rw [if_neg h1]; rfl
theorem trim_pre : ∀ (l : List Int), ∃ r, l = trim l ++ r
  | [] => ⟨[], rfl⟩
  | x :: r => by
    obtain ⟨s, hs⟩ := trim_pre r
    simp only [trim]
    split
    · rename_i e
      split
      · exact ⟨x :: r, rfl⟩
      · exact ⟨r, rfl⟩
    · rename_i y t e
      rw [e] at hs
      exact ⟨s, by rw [hs]; rfl⟩
theorem trimK_pre : ∀ (l : List Tree), ∃ r, l = trimK l ++ r
  | [] => ⟨[], rfl⟩
  | x :: r => by
    obtain ⟨s, hs⟩ := trimK_pre r
    simp only [trimK]
    split
    · rename_i e
      split
      · exact ⟨x :: r, rfl⟩
      · exact ⟨r, rfl⟩
    · rename_i y t e
      rw [e] at hs
      exact ⟨s, by rw [hs]; rfl⟩
theorem rightK_pre {list d : Int} : ∀ (a b : List Tree), rightK list (a ++ b) d = true → rightK list a d = true
  | [], _, _ => rfl
  | t :: r, b, h => by
    simp only [List.cons_append, rightK, Bool.and_eq_true] at h ⊢
    exact ⟨h.1, rightK_pre r b h.2⟩
theorem normK_length : ∀ (l : List Tree), (normK l).length = l.length
  | [] => rfl
  | t :: r => by simp only [normK, List.length_cons, normK_length r]
theorem kidB_norm {list : Int} {t : Tree} (h : kidB list t = true) : kidB list (normT t) = true := by
  unfold kidB at h ⊢
  rw [kind_norm]
  split at h
  · rename_i hl
    rw [if_pos hl]
    simp only [Bool.and_eq_true, decide_eq_true_eq] at h ⊢
    obtain ⟨⟨h1, h2, h3⟩, h4⟩ := h
    obtain ⟨k, w, ks⟩ := t
    simp only [Tree.kind_mk, Tree.kids_mk, Tree.words_mk] at h1 h2 h3 h4
    have : ks = [] := List.length_eq_zero_iff.1 h2
    subst this
    subst h1
    exact ⟨⟨rfl, rfl, h3⟩, h4⟩
  · rename_i hl
    rw [if_neg hl]
    exact h
mutual
theorem rightT_norm : ∀ (t : Tree) (d : Int), rightT t d = true → rightT (normT t) d = true
  | .mk k w ks, d, h => by
    have ih := fun (list : Int) (h : rightK list ks (d - 1) = true) => rightK_norm ks list (d - 1) h
    simp only [rightT] at h
    simp only [normT]
    by_cases h0 : k = 0
    · rw [if_pos h0]; simp [Tree.nil, rightT]
    · rw [if_neg h0] at h ⊢
      by_cases h10 : k = 10
      · subst h10
        rw [if_pos rfl] at h
        rw [if_neg (by decide)]
        simp only [decide_eq_true_eq] at h
        simp only [rightT]
        rw [if_neg (by decide), if_pos trivial, normK_length]
        simpa using h
      · rw [if_neg h10] at h
        by_cases hd : d = 0
        · rw [if_pos hd] at h; cases h
        · rw [if_neg hd] at h
          by_cases h1 : k = 1
          · subst h1
            rw [if_pos rfl] at h
            rw [if_pos rfl]
            simp only [Bool.and_eq_true, decide_eq_true_eq] at h
            simp only [rightT]
            rw [if_neg (by decide), if_neg (by decide), if_neg hd, if_pos trivial]
            simp only [Bool.and_eq_true, decide_eq_true_eq]
            obtain ⟨r1, e1⟩ := trim_pre w
            obtain ⟨r2, e2⟩ := trimK_pre (normK ks)
            have l1 := congrArg List.length e1
            have l2 := congrArg List.length e2
            rw [normK_length] at l2
            simp only [List.length_append] at l1 l2
            refine ⟨⟨by omega, by omega⟩, ?_⟩
            have := ih 1 h.2
            rw [e2] at this
            exact rightK_pre _ _ this
          · rw [if_neg h1] at h ⊢
            simp only [Bool.and_eq_true, decide_eq_true_eq] at h
            simp only [rightT]
            rw [if_neg h0, if_neg h10, if_neg hd, if_neg h1, normK_length]
            simp only [Bool.and_eq_true, decide_eq_true_eq]
            exact ⟨h.1, ih k h.2⟩
theorem rightK_norm : ∀ (l : List Tree) (list d : Int), rightK list l d = true → rightK list (normK l) d = true
  | [], _, _, _ => rfl
  | t :: r, list, d, h => by
    simp only [rightK, Bool.and_eq_true] at h
    have h1 := rightT_norm t d h.1.2
    have h2 := rightK_norm r list d h.2
    simp only [normK, rightK, Bool.and_eq_true]
    exact ⟨⟨kidB_norm h.1.1, h1⟩, h2⟩
end
end Go.AM.Ytlahjnelghpmeaa

namespace Go.AM.Ytlahjnelghpmeaa
open Go.AM Go.Proofs
theorem turnE_kind (e : Edit) : (turnE e).kind = e.kind := by cases e; rfl
theorem turnE_old (e : Edit) : (turnE e).old = e.new := by cases e; rfl
theorem turnE_new (e : Edit) : (turnE e).new = e.old := by cases e; rfl
theorem wordsOk_turn : ∀ (l : List WEdit) (last : Int), wordsOk last (l.map turnW) = wordsOk last l
  | [], _ => rfl
  | w :: r, last => by
    simp only [List.map_cons, wordsOk, wordsOk_turn r]
    have h1 : (turnW w).at_ = w.at_ := rfl
    have h2 : (turnW w).mask = w.mask := rfl
    have h3 : (turnW w).old = w.new := rfl
    have h4 : (turnW w).new = w.old := rfl
    rw [h1, h2, h3, h4, Bool.and_assoc, Bool.and_assoc, Bool.and_assoc, Bool.and_assoc]
    congr 1
    rw [← Bool.and_assoc, ← Bool.and_assoc, Bool.and_comm (withinW w.new w.mask)]
theorem turnOp_len (o : Op) : opLen (turnOp o) = opLen o ∧ ((turnOp o).kind = 2 ↔ o.kind = 1) ∧ ((turnOp o).kind = 1 ↔ o.kind = 2) := by
  rw [turnOp_at]
  by_cases h1 : o.kind = 1
  · rw [if_pos h1]; simp [opLen, h1]
  · rw [if_neg h1]
    by_cases h2 : o.kind = 2
    · rw [if_pos h2]; simp [opLen, h2]
    · rw [if_neg h2]
      by_cases h3 : o.kind = 3
      · rw [if_pos h3]; simp [opLen, h3]
      · rw [if_neg h3]; simp [opLen, h1, h2]
theorem len_turn : ∀ (l : List Op) (n : Int), lenA (turnOs l) n = lenB l n ∧ lenB (turnOs l) n = lenA l n
  | [], _ => ⟨rfl, rfl⟩
  | o :: r, n => by
    obtain ⟨h1, h2, h3⟩ := turnOp_len o
    simp only [turnOs, lenA, lenB]
    rw [h1]
    constructor
    · rw [(len_turn r _).1]
      congr 2
      by_cases h : o.kind = 1
      · rw [if_pos (h2.2 h), if_pos h]
      · rw [if_neg (fun x => h (h2.1 x)), if_neg h]
    · rw [(len_turn r _).2]
      congr 2
      by_cases h : o.kind = 2
      · rw [if_pos (h3.2 h), if_pos h]
      · rw [if_neg (fun x => h (h3.1 x)), if_neg h]
theorem turnOs_len : ∀ (l : List Op), (turnOs l).length = l.length
  | [] => rfl
  | o :: r => by simp only [turnOs, List.length_cons, turnOs_len r]
theorem op_turn {list d : Int} {o : Op} (h : rightOp list o d = true) (hi : rightE o.e d = true → rightE (turnE o.e) d = true) : rightOp list (turnOp o) d = true := by
  have h' := h
  rw [rightOp_at] at h
  by_cases k0 : o.kind = 0
  · have e : turnOp o = o := by rw [turnOp_at, if_neg (by omega), if_neg (by omega), if_neg (by omega)]
    rw [e]; exact h'
  · rw [if_neg k0] at h
    split at h
    · cases h
    · rename_i hk
      by_cases k3 : o.kind = 3
      · rw [if_neg (by omega)] at h
        have e : turnOp o = ⟨o.kind, o.n, o.l, turnE o.e⟩ := by rw [turnOp_at, if_neg (by omega), if_neg (by omega), if_pos k3]
        rw [e, rightOp_at]
        simp only
        rw [if_neg k0, if_neg hk, if_neg (by omega), turnE_kind, turnE_old, turnE_new]
        simp only [Bool.and_eq_true, decide_eq_true_eq] at h ⊢
        refine ⟨⟨h.1.1, hi h.1.2⟩, ?_⟩
        omega
      · rw [if_pos (by omega)] at h
        have hk' : o.kind = 1 ∨ o.kind = 2 := by omega
        rcases hk' with k | k
        · have e : turnOp o = ⟨2, o.n, o.l, o.e⟩ := by rw [turnOp_at, if_pos k]
          rw [e, rightOp_at]
          simp only
          rw [if_neg (by decide), if_neg (by omega), if_pos (by decide)]
          exact h
        · have e : turnOp o = ⟨1, o.n, o.l, o.e⟩ := by rw [turnOp_at, if_neg (by omega), if_pos k]
          rw [e, rightOp_at]
          simp only
          rw [if_neg (by decide), if_neg (by omega), if_pos (by decide)]
          exact h
mutual
theorem rightE_turn : ∀ (e : Edit) (d : Int), rightE e d = true → rightE (turnE e) d = true
  | .mk k o n w ks l os, d, h => by
    have h1 := rightKs_turn ks
    have h2 := rightOs_turn l os
    simp only [rightE] at h
    simp only [turnE, rightE]
    split at h
    · cases h
    · rename_i a
      rw [if_neg a]
      split at h
      · cases h
      · rename_i b
        rw [if_neg (by rw [List.length_map, turnKs_len, turnOs_len]; intro hc; apply b; rcases hc with x | x | x; exact Or.inl ⟨x.1, fun y => x.2 ⟨y.2, y.1⟩⟩; exact Or.inr (Or.inl x); exact Or.inr (Or.inr x))]
        split at h
        · rename_i c
          rw [if_pos c]
          simp only [Bool.and_eq_true, decide_eq_true_eq] at h ⊢
          exact ⟨⟨h.1.2, h.1.1⟩, h.2.2, h.2.1⟩
        · rename_i c
          rw [if_neg c]
          simp only [Bool.and_eq_true, decide_eq_true_eq] at h ⊢
          obtain ⟨⟨⟨⟨x1, x2⟩, x3⟩, x4⟩, x5⟩ := h
          refine ⟨⟨⟨⟨by rw [wordsOk_turn]; exact x1, h1 _ _ x2⟩, x3⟩, h2 _ x4⟩, ?_⟩
          rw [(len_turn os 0).1, (len_turn os 0).2]
          exact ⟨x5.2, x5.1⟩
theorem rightKs_turn : ∀ (ks : List (KidOf Edit)) (last d : Int), rightKs last ks d = true → rightKs last (turnKs ks) d = true
  | [], _, _, _ => rfl
  | k :: r, last, d, h => by
    simp only [rightKs, Bool.and_eq_true] at h
    have h1 := rightKid_turn k last d h.1
    have h2 := rightKs_turn r k.at_ d h.2
    simp only [turnKs, rightKs, Bool.and_eq_true]
    exact ⟨h1, by rw [turnKid_at]; exact h2⟩
theorem rightKid_turn : ∀ (k : KidOf Edit) (last d : Int), rightKid last k d = true → rightKid last (turnKid k) d = true
  | ⟨a, e⟩, last, d, h => by
    simp only [rightKid, Bool.and_eq_true] at h
    have h1 := rightE_turn e d h.2
    simp only [turnKid, rightKid, Bool.and_eq_true]
    rw [turnE_kind]
    exact ⟨h.1, h1⟩
theorem rightOs_turn (list : Int) : ∀ (os : List (OpOf Edit)) (d : Int), rightOs list os d = true → rightOs list (turnOs os) d = true
  | [], _, _ => rfl
  | o :: r, d, h => by
    simp only [rightOs, Bool.and_eq_true] at h
    have h1 := rightOp_turn list o d h.1
    have h2 := rightOs_turn list r d h.2
    simp only [turnOs, rightOs, Bool.and_eq_true]
    exact ⟨h1, h2⟩
theorem rightOp_turn (list : Int) : ∀ (o : OpOf Edit) (d : Int), rightOp list o d = true → rightOp list (turnOp o) d = true
  | ⟨k, n, l, e⟩, d, h => op_turn (o := ⟨k, n, l, e⟩) h (fun he => rightE_turn e d he)
end
end Go.AM.Ytlahjnelghpmeaa

namespace Go.AM.Ytlahjnelghpmeaa
open Go.AM Go.Proofs
theorem massK_app : ∀ (a b : List Tree), massK (a ++ b) = massK a + massK b
  | [], b => by simp [massK]
  | t :: r, b => by simp only [List.cons_append, massK, massK_app r b]; omega
theorem massOs_app : ∀ (a b : List Op), massOs (a ++ b) = massOs a + massOs b
  | [], b => by simp [massOs]
  | t :: r, b => by simp only [List.cons_append, massOs, massOs_app r b]; omega
theorem massK_norms : ∀ (l : List Tree), massK (normsT l) ≤ massK l
  | [] => by simp [normsT, massK]
  | t :: r => by
    have h := massK_norms r
    have h2 := normT_mass t
    simp only [normsT] at h
    simp only [normsT, List.map_cons, massK]
    omega
theorem mass_nilE : massE Edit.nil = 3 := by simp [Edit.nil, Tree.nil, massE, mass, massK, massKs, massOs]
theorem mass_nilT : mass Tree.nil = 1 := by simp [Tree.nil, mass, massK]
theorem mass_pos' (t : Tree) : 1 ≤ mass t := by cases t; simp only [mass]; omega
theorem massE_three : ∀ (e : Edit), 3 ≤ massE e
  | .mk k o n w ks l os => by
    have h1 := mass_pos' o
    have h2 := mass_pos' n
    simp only [massE]; omega
def potW (w : Wst) : Nat := massOs w.out + w.out.length + massK w.gone + massK w.brought + (if w.gone.length = 0 then 0 else 4) + (if w.brought.length = 0 then 0 else 4)
theorem massOs_one (o : Op) : massOs [o] = massOp o := by simp [massOs]
theorem massOp_mk (k n : Int) (l : List Tree) (e : Edit) : massOp (OpOf.mk k n l e) = massK l + massE e := rfl
theorem pot_flush (w : Wst) : massOs (flushW w).out + (flushW w).out.length = potW w := by
  simp only [flushW, flushO, potW]
  rw [massOs_app, massOs_app, List.length_append, List.length_append]
  by_cases hg : w.gone.length = 0
  · have e : w.gone = [] := List.length_eq_zero_iff.1 hg
    rw [if_pos hg, if_pos hg, e]
    by_cases hb : w.brought.length = 0
    · have e2 : w.brought = [] := List.length_eq_zero_iff.1 hb
      rw [if_pos hb, if_pos hb, e2]; simp [massOs, massK]
    · rw [if_neg hb, if_neg hb, massOs_one, massOp_mk, mass_nilE]; simp [massOs, massK]; omega
  · rw [if_neg hg, if_neg hg, massOs_one, massOp_mk, mass_nilE]
    by_cases hb : w.brought.length = 0
    · have e2 : w.brought = [] := List.length_eq_zero_iff.1 hb
      rw [if_pos hb, if_pos hb, e2]; simp [massOs, massK]; omega
    · rw [if_neg hb, if_neg hb, massOs_one, massOp_mk, mass_nilE]; simp; omega
theorem pot_keep (w : Wst) (n : Int) : potW (keepW w n) ≤ potW w + 4 := by
  have h := pot_flush w
  have e : potW (keepW w n) = massOs (keepO (flushW w).out n) + (keepO (flushW w).out n).length := by simp [potW, keepW, massK]
  rw [e]
  rcases keepO_cases (flushW w).out n with e | ⟨a, o, e1, _, e3⟩
  · rw [e, massOs_app, List.length_append, massOs_one, massOp_mk, mass_nilE]; simp [massK]; omega
  · rw [e3, massOs_app, List.length_append, massOs_one]
    rw [e1, massOs_app, List.length_append, massOs_one] at h
    obtain ⟨k, m, l, e⟩ := o
    simp only [massOp_mk] at h ⊢
    simp at h ⊢
    omega
theorem pot_op {list : Int} {w : Wst} {o : Op} (hi : massE (nrmE o.e) ≤ massE o.e) : potW (nrmOp list o w) ≤ potW w + massOp o + 1 := by
  have h3 := massE_three o.e
  have hm : massOp o = massK o.l + massE o.e := by cases o; rfl
  have hn := massK_norms o.l
  have hl : (normsT o.l).length = o.l.length := by simp [normsT]
  rw [nrmOp_at]
  split
  · have := pot_keep w o.n; omega
  · split
    · simp only [potW, massK_app, List.length_append, hl]
      split <;> split <;> split <;> omega
    · split
      · simp only [potW, massK_app, List.length_append, hl]
        split <;> split <;> split <;> omega
      · split
        · split
          · have := pot_keep w 1; omega
          · have := pot_flush w
            have e : potW ⟨(flushW w).out ++ [⟨3, 0, [], nrmE o.e⟩], [], []⟩ = massOs ((flushW w).out ++ [(⟨3, 0, [], nrmE o.e⟩ : Op)]) + ((flushW w).out ++ [(⟨3, 0, [], nrmE o.e⟩ : Op)]).length := by simp [potW, massK]
            rw [e, massOs_app, List.length_append, massOs_one, massOp_mk]
            simp [massK]; omega
        · omega
mutual
theorem massE_nrm : ∀ (e : Edit), massE (nrmE e) ≤ massE e
  | .mk k o n w ks l os => by
    have h1 := massKs_nrm ks
    have h2 := pot_nrm l os W0
    have h3 := pot_flush (nrmOs l os W0)
    have e0 : potW W0 = 0 := rfl
    have po := mass_pos' o
    have pn := mass_pos' n
    have mo := normT_mass o
    have mn := normT_mass n
    rw [nrmE]
    split
    · simp only [massE, massKs, massOs, List.length_nil]; omega
    · split
      · simp only [massE, massKs, massOs, List.length_nil, mass_nilT]; omega
      · split
        · simp only [massE, massKs, List.length_nil, mass_nilT]
          show 1 + 1 + 1 + 0 + (flushW (nrmOs l os W0)).out.length + 0 + massOs (flushW (nrmOs l os W0)).out ≤ _
          omega
        · simp only [massE, massKs, massOs, List.length_nil, mass_nilT]; omega
theorem massKs_nrm : ∀ (ks : List (KidOf Edit)), massKs (nrmKs ks) ≤ massKs ks
  | [] => Nat.le_refl _
  | k :: r => by
    have h1 := massKid_nrm k
    have h2 := massKs_nrm r
    simp only [nrmKs, massKs]; omega
theorem massKid_nrm : ∀ (k : KidOf Edit), massKid (nrmKid k) ≤ massKid k
  | ⟨a, e⟩ => by
    have h := massE_nrm e
    simp only [nrmKid, massKid]; exact h
theorem pot_nrm (list : Int) : ∀ (os : List (OpOf Edit)) (w : Wst), potW (nrmOs list os w) ≤ potW w + massOs os + os.length
  | [], w => by simp [nrmOs, massOs]
  | o :: r, w => by
    have h1 := pot_nrmOp list o w
    have h2 := pot_nrm list r (nrmOp list o w)
    simp only [nrmOs, massOs, List.length_cons]; omega
theorem pot_nrmOp (list : Int) : ∀ (o : OpOf Edit) (w : Wst), potW (nrmOp list o w) ≤ potW w + massOp o + 1
  | ⟨k, n, l, e⟩, _ => pot_op (o := ⟨k, n, l, e⟩) (massE_nrm e)
end
end Go.AM.Ytlahjnelghpmeaa
