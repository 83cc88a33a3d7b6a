import Derived.Test.YtlahjnelghpmeaaL21
set_option linter.unusedSimpArgs false
set_option linter.unusedVariables false
namespace Go.AM.Ytlahjnelghpmeaa
open Go.AM Go.Proofs
def args1071 : ArgL (List Int × Unit) := (.cons (aSl .u64) .nil)
def pre1071 (a : List Int × Unit) : Prop := a.1.length ≤ 1000000000000
noncomputable def resL1071 (a : List Int × Unit) : List Int := a.1
noncomputable def spec1071 : Fs U := fsL args1071 (fun a => [pre1071 a]) .u64 resL1071
def args126 : ArgL (List Tree × Unit) := (.cons (aSl .tree) .nil)
def pre126 (a : List Tree × Unit) : Prop := a.1.length ≤ 1000000000000
noncomputable def resL126 (a : List Tree × Unit) : List Tree := a.1
noncomputable def spec126 : Fs U := fsL args126 (fun a => [pre126 a]) .tree resL126
def args82 : ArgL (Edit × Tree × Unit) := (.cons (aEl .edit) (.cons (aEl .tree) .nil))
def pre82 (a : Edit × Tree × Unit) : Prop := (massE a.1 ≤ 1000000 ∧ rngE a.1 ∧ ∃ d, rightE a.1 d = true) ∧ mass a.2.1 ≤ 100000000000 ∧ rng a.2.1
def mu82 (a : Edit × Tree × Unit) : Nat := 2 * massE a.1 + 1
noncomputable def res82 (a : Edit × Tree × Unit) : V U := .tup [(true, [.int .i64 (Tree.kind (oneT a.1 a.2.1)), .slice (U := U) .u64 (Tree.words (oneT a.1 a.2.1)) .unk, .slice (U := U) .tree (Tree.kids (oneT a.1 a.2.1)) .unk]), (false, [.bool ((doE false a.1 a.2.1).isSome)])]
noncomputable def spec82 : Fs U := fs args82 (fun a => [pre82 a]) res82
def args113 : ArgL (Edit × Tree × Unit) := (.cons (aEl .edit) (.cons (aEl .tree) .nil))
def pre113 (a : Edit × Tree × Unit) : Prop := Edit.kind a.1 = 2 ∧ (massE a.1 ≤ 1000000 ∧ rngE a.1 ∧ ∃ d, rightE a.1 d = true) ∧ mass a.2.1 ≤ 100000000000 ∧ rng a.2.1
def mu113 (a : Edit × Tree × Unit) : Nat := 2 * massE a.1
noncomputable def res113 (a : Edit × Tree × Unit) : V U := .tup [(true, [.int .i64 (Tree.kind (orNil (strD false a.1 a.2.1))), .slice (U := U) .u64 (Tree.words (orNil (strD false a.1 a.2.1))) .unk, .slice (U := U) .tree (Tree.kids (orNil (strD false a.1 a.2.1))) .unk]), (false, [.bool ((strD false a.1 a.2.1).isSome)])]
noncomputable def spec113 : Fs U := fs args113 (fun a => [pre113 a]) res113
def args114 : ArgL (Edit × Tree × Unit) := (.cons (aEl .edit) (.cons (aEl .tree) .nil))
def pre114 (a : Edit × Tree × Unit) : Prop := Edit.kind a.1 = 3 ∧ (massE a.1 ≤ 1000000 ∧ rngE a.1 ∧ ∃ d, rightE a.1 d = true) ∧ mass a.2.1 ≤ 100000000000 ∧ rng a.2.1
def mu114 (a : Edit × Tree × Unit) : Nat := 2 * massE a.1
noncomputable def res114 (a : Edit × Tree × Unit) : V U := .tup [(true, [.int .i64 (Tree.kind (lstT a.1 (lstD false a.1 a.2.1))), .slice (U := U) .u64 (Tree.words (lstT a.1 (lstD false a.1 a.2.1))) .unk, .slice (U := U) .tree (Tree.kids (lstT a.1 (lstD false a.1 a.2.1))) .unk]), (false, [.bool ((endD (lstD false a.1 a.2.1)).isSome)])]
noncomputable def spec114 : Fs U := fs args114 (fun a => [pre114 a]) res114
noncomputable def know1071 : List (FuncId × Fs U) := []
def lv1071 : Lives U := fun i => match i with
  | 0 => ([(0, [])], [])
  | 1 => ([(0, []), (4, [])], [])
  | 2 => ([(2, [.wr .u64])], [])
  | 3 => ([(2, [.wr .u64])], [])
  | _ => ([], [])
noncomputable abbrev A1071 (p : List Nat) := awp cfg (knowM know1071) (drawOk cfg (knowM know1071)) Try.f71.ntmps lv1071 (cd Try.f71 p)
theorem vc1071 (l : List Int) (Q : AExit → LSt U → Prop) (h : ((((l = []) → (Q .ret (⟨[(2, .c (.mref (.e 2 0)))], [], [(.e 2 0, LC.mk (U := U) .u64 ([]) 0)]⟩ : LSt U))) ∧ ((True) → ((([] : List Int).length + l.length) * 8 ≤ 140737488355328) ∧ (Q .ret (⟨[(2, .c (.mref (.e 2 0)))], [], [(.e 2 0, LC.mk (U := U) .u64 (([] : List Int) ++ l) (([] : List Int).length))]⟩ : LSt U)))))) :
    A1071 [] (⟨[(0, .c (.slice (U := U) .u64 l .unk))], [], []⟩ : LSt U) Q :=
  Eq.mpr (by kernel_rfl) h
def Body1071 (l : List Int)  : Prop := awp cfg (knowM (know1071)) (drawOk cfg (knowM (know1071))) Try.f71.ntmps lv1071 (cd Try.f71 []) (entry (args1071.can (l, ())) []) (EndsQL cfg Try.f71.ntmps Try.f71.results.toList (.c (.mref (.r 0 0))) [] [(.r 0 0, LC.mk (U := U) .u64 (resL1071 (l, ())) 0)])
theorem make1071 (hb : ∀ (l : List Int) (_ : Unit), pre1071 (l, ()) → Body1071 l) : Contract Try.prog cfg 71 spec1071 :=
  contractL_flat (l := []) cfgOk rfl (trivial) lv1071 Try.func71 rfl rfl 1 (fun _ => rfl) (by decide) (fun ⟨l, _⟩ => hb l ())
noncomputable def know126 : List (FuncId × Fs U) := []
def lv126 : Lives U := fun i => match i with
  | 0 => ([(0, [])], [])
  | 1 => ([(0, []), (4, [])], [])
  | 2 => ([(2, [.wr .tree])], [])
  | 3 => ([(2, [.wr .tree])], [])
  | _ => ([], [])
noncomputable abbrev A126 (p : List Nat) := awp cfg (knowM know126) (drawOk cfg (knowM know126)) Try.f126.ntmps lv126 (cd Try.f126 p)
theorem vc126 (l : List Tree) (Q : AExit → LSt U → Prop) (h : ((((l = []) → (Q .ret (⟨[(2, .c (.mref (.e 2 0)))], [], [(.e 2 0, LC.mk (U := U) .tree ([]) 0)]⟩ : LSt U))) ∧ ((True) → ((([] : List Tree).length + l.length) * 56 ≤ 140737488355328) ∧ (Q .ret (⟨[(2, .c (.mref (.e 2 0)))], [], [(.e 2 0, LC.mk (U := U) .tree (([] : List Tree) ++ l) (([] : List Tree).length))]⟩ : LSt U)))))) :
    A126 [] (⟨[(0, .c (.slice (U := U) .tree l .unk))], [], []⟩ : LSt U) Q :=
  Eq.mpr (by kernel_rfl) h
def Body126 (l : List Tree)  : Prop := awp cfg (knowM (know126)) (drawOk cfg (knowM (know126))) Try.f126.ntmps lv126 (cd Try.f126 []) (entry (args126.can (l, ())) []) (EndsQL cfg Try.f126.ntmps Try.f126.results.toList (.c (.mref (.r 0 0))) [] [(.r 0 0, LC.mk (U := U) .tree (resL126 (l, ())) 0)])
theorem make126 (hb : ∀ (l : List Tree) (_ : Unit), pre126 (l, ()) → Body126 l) : Contract Try.prog cfg 126 spec126 :=
  contractL_flat (l := []) cfgOk rfl (trivial) lv126 Try.func126 rfl rfl 1 (fun _ => rfl) (by decide) (fun ⟨l, _⟩ => hb l ())
noncomputable def know82 (N : Nat) : List (FuncId × Fs U) := (82, fs args82 (fun a => [pre82 a, mu82 a < N]) res82) :: (113, fs args113 (fun a => [pre113 a, mu113 a < N]) res113) :: (114, fs args114 (fun a => [pre114 a, mu114 a < N]) res114) :: [(34, spec34), (73, spec73), (74, spec74), (96, spec96), (126, spec126), (127, spec127), (71, spec1071)]
def lv82 : Lives U := fun i => match i with
  | 0 => ([(2, []), (3, []), (4, [])], [((.loc 2), []), ((.loc 3), []), ((.loc 4), [])])
  | 1 => ([(2, []), (3, []), (4, []), (7, [])], [((.loc 2), []), ((.loc 3), []), ((.loc 4), [])])
  | 2 => ([(2, []), (3, []), (4, []), (7, []), (8, [])], [((.loc 2), []), ((.loc 3), []), ((.loc 4), [])])
  | 3 => ([(4, []), (5, [])], [((.loc 4), [])])
  | 4 => ([(2, []), (3, []), (4, []), (7, []), (11, [])], [((.loc 2), []), ((.loc 3), []), ((.loc 4), [])])
  | 5 => ([(4, []), (5, [])], [((.loc 4), [])])
  | 6 => ([(2, []), (3, []), (4, []), (7, []), (19, [])], [((.loc 2), []), ((.loc 3), []), ((.loc 4), [])])
  | 7 => ([(4, []), (5, [])], [((.loc 4), [])])
  | 8 => ([(2, []), (3, []), (4, []), (26, [])], [((.loc 2), []), ((.loc 3), []), ((.loc 4), [])])
  | 9 => ([(4, []), (5, [])], [((.loc 4), [])])
  | 10 => ([(4, []), (5, [])], [((.loc 4), [])])
  | _ => ([], [])
noncomputable abbrev A82 (N : Nat) (p : List Nat) := awp cfg (know (know82 N)) (drawOk cfg (know (know82 N))) Try.f82.ntmps lv82 (cd Try.f82 p)
theorem vc82 (N : Nat) (e : Edit) (t : Tree) (Q : AExit → LSt U → Prop) (h : ∀ y_1, y_1 = (e) → ∀ y_2, y_2 = (t) → ∀ y_3, y_3 = ((Edit.old e)) → (((((((Edit.kind e) : Int) == 0) = true → (Q .ret (⟨[(4, .ptr (.loc 4) 0), (5, .c (.bool true))], [((.loc 4), [.int .i64 (Tree.kind t), .slice (U := U) .u64 (Tree.words t) .unk, .slice (U := U) .tree (Tree.kids t) .unk])], []⟩ : LSt U))) ∧ ((((Edit.kind e) : Int) == 0) = false → (((((Edit.kind e) : Int) == 1) = true → (pre34 (y_3, y_2, ())) ∧ (Q .ret (⟨[(4, .ptr (.loc 4) 0), (5, .c (.bool (sameT (normT y_3) (normT y_2))))], [((.loc 4), [.int .i64 (Tree.kind (Edit.new e)), .slice (U := U) .u64 (Tree.words (Edit.new e)) .unk, .slice (U := U) .tree (Tree.kids (Edit.new e)) .unk])], []⟩ : LSt U))) ∧ ((((Edit.kind e) : Int) == 1) = false → (((((Edit.kind e) : Int) == 2) = true → (pre113 (y_1, y_2, ())) ∧ (mu113 (y_1, y_2, ()) < N) ∧ (Q .ret (⟨[(4, .ptr (.loc 4) 0), (5, .c (.bool ((strD false y_1 y_2).isSome)))], [((.loc 4), [.int .i64 (Tree.kind (orNil (strD false y_1 y_2))), .slice (U := U) .u64 (Tree.words (orNil (strD false y_1 y_2))) .unk, .slice (U := U) .tree (Tree.kids (orNil (strD false y_1 y_2))) .unk])], []⟩ : LSt U))) ∧ ((((Edit.kind e) : Int) == 2) = false → (((((Edit.kind e) : Int) == 3) = true → (pre114 (y_1, y_2, ())) ∧ (mu114 (y_1, y_2, ()) < N) ∧ (Q .ret (⟨[(4, .ptr (.loc 4) 0), (5, .c (.bool ((endD (lstD false y_1 y_2)).isSome)))], [((.loc 4), [.int .i64 (Tree.kind (lstT y_1 (lstD false y_1 y_2))), .slice (U := U) .u64 (Tree.words (lstT y_1 (lstD false y_1 y_2))) .unk, .slice (U := U) .tree (Tree.kids (lstT y_1 (lstD false y_1 y_2))) .unk])], []⟩ : LSt U))) ∧ ((((Edit.kind e) : Int) == 3) = false → (Q .ret (⟨[(4, .ptr (.loc 4) 0), (5, .c (.bool false))], [((.loc 4), [.int .i64 0, .nils, .nils])], []⟩ : LSt U))))))))))))) :
    A82 N [] (⟨[(0, .agg [.int .i64 (Edit.kind e), .int .i64 (Tree.kind (Edit.old e)), .slice (U := U) .u64 (Tree.words (Edit.old e)) .unk, .slice (U := U) .tree (Tree.kids (Edit.old e)) .unk, .int .i64 (Tree.kind (Edit.new e)), .slice (U := U) .u64 (Tree.words (Edit.new e)) .unk, .slice (U := U) .tree (Tree.kids (Edit.new e)) .unk, .slice (U := U) .wedit (Edit.words e) .unk, .slice (U := U) .kid (Edit.kids e) .unk, .int .i64 (Edit.list e), .slice (U := U) .op (Edit.ops e) .unk]), (1, .agg [.int .i64 (Tree.kind t), .slice (U := U) .u64 (Tree.words t) .unk, .slice (U := U) .tree (Tree.kids t) .unk])], [], []⟩ : LSt U) Q :=
  Eq.mpr (by kernel_rfl) (h _ (reEdit_eq _) _ (reTree_eq _) _ (reTree_eq _))
def Body82 (N : Nat) (e : Edit) (t : Tree)  : Prop := awp cfg (know (know82 N)) (drawOk cfg (know (know82 N))) Try.f82.ntmps lv82 (cd Try.f82 []) (entry (args82.can (e, t, ())) []) (EndsQ cfg Try.f82.ntmps Try.f82.results.toList (res82 (e, t, ())) [])
abbrev HB82 : Prop := ∀ (N : Nat) (e : Edit) (t : Tree) (_ : Unit), pre82 (e, t, ()) → mu82 (e, t, ()) < N + 1 → Body82 N e t
noncomputable def know113 (N : Nat) : List (FuncId × Fs U) := (82, fs args82 (fun a => [pre82 a, mu82 a < N]) res82) :: (113, fs args113 (fun a => [pre113 a, mu113 a < N]) res113) :: (114, fs args114 (fun a => [pre114 a, mu114 a < N]) res114) :: [(34, spec34), (73, spec73), (74, spec74), (96, spec96), (126, spec126), (127, spec127), (71, spec1071)]
def lv113 : Lives U := fun i => match i with
  | 0 => ([(2, []), (3, []), (4, [])], [((.loc 2), []), ((.loc 3), []), ((.loc 4), [])])
  | 1 => ([(2, []), (3, []), (4, []), (16, [])], [((.loc 2), []), ((.loc 3), []), ((.loc 4), [])])
  | 2 => ([(4, []), (5, [])], [((.loc 4), [])])
  | 3 => ([(2, []), (3, []), (4, []), (6, [])], [((.loc 2), []), ((.loc 3), []), ((.loc 4), []), ((.loc 6), [.any, .wr .u64, .wr .tree])])
  | 4 => ([(2, []), (3, []), (4, []), (6, []), (26, []), (27, []), (28, [])], [((.loc 2), []), ((.loc 3), []), ((.loc 4), []), ((.loc 6), [.any, .wr .u64, .wr .tree])])
  | 5 => ([(2, []), (3, []), (4, []), (6, []), (26, []), (27, []), (28, []), (29, [])], [((.loc 2), []), ((.loc 3), []), ((.loc 4), []), ((.loc 6), [.any, .wr .u64, .wr .tree])])
  | 6 => ([(2, []), (3, []), (4, []), (6, []), (8, []), (26, []), (27, []), (28, [])], [((.loc 2), []), ((.loc 3), []), ((.loc 4), []), ((.loc 6), [.any, .wr .u64, .wr .tree]), ((.loc 8), [])])
  | 7 => ([(2, []), (3, []), (4, []), (6, []), (8, []), (9, []), (26, []), (27, []), (28, [])], [((.loc 2), []), ((.loc 3), []), ((.loc 4), []), ((.loc 6), [.any, .wr .u64, .wr .tree]), ((.loc 8), [])])
  | 8 => ([(2, []), (3, []), (4, []), (6, []), (8, []), (9, []), (26, []), (27, []), (28, []), (42, [])], [((.loc 2), []), ((.loc 3), []), ((.loc 4), []), ((.loc 6), [.any, .wr .u64, .wr .tree]), ((.loc 8), [])])
  | 9 => ([(4, []), (5, [])], [((.loc 4), [])])
  | 10 => ([(2, []), (3, []), (4, []), (6, []), (8, []), (9, []), (26, []), (27, []), (28, []), (42, []), (49, [])], [((.loc 2), []), ((.loc 3), []), ((.loc 4), []), ((.loc 6), [.any, .wr .u64, .wr .tree]), ((.loc 8), [])])
  | 11 => ([(2, []), (3, []), (4, []), (6, []), (8, []), (9, []), (26, []), (27, []), (28, []), (42, [])], [((.loc 2), []), ((.loc 3), []), ((.loc 4), []), ((.loc 6), [.any, .wr .u64, .wr .tree]), ((.loc 8), [])])
  | 12 => ([(2, []), (3, []), (4, []), (6, []), (26, []), (27, []), (28, [])], [((.loc 2), []), ((.loc 3), []), ((.loc 4), []), ((.loc 6), [.any, .wr .u64, .wr .tree])])
  | 13 => ([(2, []), (3, []), (4, []), (6, []), (26, []), (27, []), (28, [])], [((.loc 2), []), ((.loc 3), []), ((.loc 4), []), ((.loc 6), [.any, .wr .u64, .wr .tree])])
  | 14 => ([(3, []), (4, []), (6, []), (68, []), (69, []), (70, [])], [((.loc 3), []), ((.loc 4), []), ((.loc 6), [.any, .wr .u64, .wr .tree])])
  | 15 => ([(3, []), (4, []), (6, []), (68, []), (69, []), (70, []), (71, [])], [((.loc 3), []), ((.loc 4), []), ((.loc 6), [.any, .wr .u64, .wr .tree])])
  | 16 => ([(3, []), (4, []), (6, []), (11, []), (68, []), (69, []), (70, [])], [((.loc 3), []), ((.loc 4), []), ((.loc 6), [.any, .wr .u64, .wr .tree]), ((.loc 11), [])])
  | 17 => ([(3, []), (4, []), (6, []), (11, []), (12, []), (13, []), (68, []), (69, []), (70, [])], [((.loc 3), []), ((.loc 4), []), ((.loc 6), [.any, .wr .u64, .wr .tree]), ((.loc 11), []), ((.loc 12), [])])
  | 18 => ([(3, []), (4, []), (6, []), (11, []), (12, []), (68, []), (69, []), (70, []), (85, [])], [((.loc 3), []), ((.loc 4), []), ((.loc 6), [.any, .wr .u64, .wr .tree]), ((.loc 11), []), ((.loc 12), [])])
  | 19 => ([(4, []), (5, [])], [((.loc 4), [])])
  | 20 => ([(3, []), (4, []), (6, []), (11, []), (12, []), (68, []), (69, []), (70, []), (85, []), (92, [])], [((.loc 3), []), ((.loc 4), []), ((.loc 6), [.any, .wr .u64, .wr .tree]), ((.loc 11), []), ((.loc 12), [])])
  | 21 => ([(3, []), (4, []), (6, []), (11, []), (12, []), (68, []), (69, []), (70, []), (85, [])], [((.loc 3), []), ((.loc 4), []), ((.loc 6), [.any, .wr .u64, .wr .tree]), ((.loc 11), []), ((.loc 12), [])])
  | 22 => ([(3, []), (4, []), (6, []), (68, []), (69, []), (70, [])], [((.loc 3), []), ((.loc 4), []), ((.loc 6), [.any, .wr .u64, .wr .tree])])
  | 23 => ([(3, []), (4, []), (6, []), (68, []), (69, []), (70, [])], [((.loc 3), []), ((.loc 4), []), ((.loc 6), [.any, .wr .u64, .wr .tree])])
  | 24 => ([(4, []), (5, [])], [((.loc 4), [])])
  | _ => ([], [])
noncomputable def head113_0 (e : Edit) (t : Tree) (x28 : Int) (rl_6_1 : List Int) : LSt U := (⟨[(2, .ptr (.loc 2) 0), (3, .ptr (.loc 3) 0), (4, .ptr (.loc 4) 0), (6, .ptr (.loc 6) 0), (26, .c (.slice (U := U) .wedit (Edit.words e) .unk)), (27, .c (.int .i64 ((Edit.words e).length : Int))), (28, .c (.int .i64 x28))], [((.loc 2), [.int .i64 (Edit.kind e), .int .i64 (Tree.kind (Edit.old e)), .slice (U := U) .u64 (Tree.words (Edit.old e)) .unk, .slice (U := U) .tree (Tree.kids (Edit.old e)) .unk, .int .i64 (Tree.kind (Edit.new e)), .slice (U := U) .u64 (Tree.words (Edit.new e)) .unk, .slice (U := U) .tree (Tree.kids (Edit.new e)) .unk, .slice (U := U) .wedit (Edit.words e) .unk, .slice (U := U) .kid (Edit.kids e) .unk, .int .i64 (Edit.list e), .slice (U := U) .op (Edit.ops e) .unk]), ((.loc 3), [.int .i64 (Tree.kind t), .slice (U := U) .u64 (Tree.words t) .unk, .slice (U := U) .tree (Tree.kids t) .unk]), ((.loc 4), [.int .i64 0, .nils, .nils]), ((.loc 6), [.int .i64 1, .mref (.l 6 1), .mref (.l 6 2)])], [(.l 6 1, LC.mk (U := U) .u64 rl_6_1 0), (.l 6 2, LC.mk (U := U) .tree (Tree.kids t) 0)]⟩ : LSt U)
noncomputable def head113_1 (e : Edit) (t : Tree) (x28 : Int) (rl_6_1_a : List Int) : LSt U := (⟨[(2, .ptr (.loc 2) 0), (3, .ptr (.loc 3) 0), (4, .ptr (.loc 4) 0), (6, .ptr (.loc 6) 0), (8, .ptr (.loc 8) 0), (9, .c (.int .u64 (wordAt (Tree.mk (Tree.kind t) (Tree.words t) (Tree.kids t)) (WEdit.at_ (List.getD (Edit.words e) (Int.toNat x28) (WEdit.mk 0 0 0 0)))))), (26, .c (.slice (U := U) .wedit (Edit.words e) .unk)), (27, .c (.int .i64 ((Edit.words e).length : Int))), (28, .c (.int .i64 x28)), (42, .c (.bool (((mix 0 (wordAt (Tree.mk (Tree.kind t) (Tree.words t) (Tree.kids t)) (WEdit.at_ (List.getD (Edit.words e) (Int.toNat x28) (WEdit.mk 0 0 0 0)))) (WEdit.mask (List.getD (Edit.words e) (Int.toNat x28) (WEdit.mk 0 0 0 0)))) : Int) != (WEdit.old (List.getD (Edit.words e) (Int.toNat x28) (WEdit.mk 0 0 0 0))))))], [((.loc 2), [.int .i64 (Edit.kind e), .int .i64 (Tree.kind (Edit.old e)), .slice (U := U) .u64 (Tree.words (Edit.old e)) .unk, .slice (U := U) .tree (Tree.kids (Edit.old e)) .unk, .int .i64 (Tree.kind (Edit.new e)), .slice (U := U) .u64 (Tree.words (Edit.new e)) .unk, .slice (U := U) .tree (Tree.kids (Edit.new e)) .unk, .slice (U := U) .wedit (Edit.words e) .unk, .slice (U := U) .kid (Edit.kids e) .unk, .int .i64 (Edit.list e), .slice (U := U) .op (Edit.ops e) .unk]), ((.loc 3), [.int .i64 (Tree.kind t), .slice (U := U) .u64 (Tree.words t) .unk, .slice (U := U) .tree (Tree.kids t) .unk]), ((.loc 4), [.int .i64 0, .nils, .nils]), ((.loc 6), [.int .i64 1, .mref (.l 6 1), .mref (.l 6 2)]), ((.loc 8), [.int .i64 (WEdit.at_ (List.getD (Edit.words e) (Int.toNat x28) (WEdit.mk 0 0 0 0))), .int .u8 (WEdit.mask (List.getD (Edit.words e) (Int.toNat x28) (WEdit.mk 0 0 0 0))), .int .u64 (WEdit.old (List.getD (Edit.words e) (Int.toNat x28) (WEdit.mk 0 0 0 0))), .int .u64 (WEdit.new (List.getD (Edit.words e) (Int.toNat x28) (WEdit.mk 0 0 0 0)))])], [(.l 6 1, LC.mk (U := U) .u64 rl_6_1_a 0), (.l 6 2, LC.mk (U := U) .tree (Tree.kids t) 0)]⟩ : LSt U)
noncomputable def head113_2 (e : Edit) (t : Tree) (rl_6_1 : List Int) (x70_b : Int) (rl_6_2_b : List Tree) : LSt U := (⟨[(3, .ptr (.loc 3) 0), (4, .ptr (.loc 4) 0), (6, .ptr (.loc 6) 0), (68, .c (.slice (U := U) .kid (Edit.kids e) .unk)), (69, .c (.int .i64 ((Edit.kids e).length : Int))), (70, .c (.int .i64 x70_b))], [((.loc 3), [.int .i64 (Tree.kind t), .slice (U := U) .u64 (Tree.words t) .unk, .slice (U := U) .tree (Tree.kids t) .unk]), ((.loc 4), [.int .i64 0, .nils, .nils]), ((.loc 6), [.int .i64 1, .mref (.l 6 1), .mref (.l 6 2)])], [(.l 6 1, LC.mk (U := U) .u64 rl_6_1 0), (.l 6 2, LC.mk (U := U) .tree rl_6_2_b 0)]⟩ : LSt U)
noncomputable def head113_3 (e : Edit) (t : Tree) (rl_6_1 : List Int) (x70_b : Int) (rl_6_2_c : List Tree) : LSt U := (⟨[(3, .ptr (.loc 3) 0), (4, .ptr (.loc 4) 0), (6, .ptr (.loc 6) 0), (11, .ptr (.loc 11) 0), (12, .ptr (.loc 12) 0), (68, .c (.slice (U := U) .kid (Edit.kids e) .unk)), (69, .c (.int .i64 ((Edit.kids e).length : Int))), (70, .c (.int .i64 x70_b)), (85, .c (.bool (!((doE false (Edit.mk (Edit.kind (KidOf.e (List.getD (Edit.kids e) (Int.toNat x70_b) (KidOf.mk 0 Edit.nil)))) (Tree.mk (Tree.kind (Edit.old (KidOf.e (List.getD (Edit.kids e) (Int.toNat x70_b) (KidOf.mk 0 Edit.nil))))) (Tree.words (Edit.old (KidOf.e (List.getD (Edit.kids e) (Int.toNat x70_b) (KidOf.mk 0 Edit.nil))))) (Tree.kids (Edit.old (KidOf.e (List.getD (Edit.kids e) (Int.toNat x70_b) (KidOf.mk 0 Edit.nil)))))) (Tree.mk (Tree.kind (Edit.new (KidOf.e (List.getD (Edit.kids e) (Int.toNat x70_b) (KidOf.mk 0 Edit.nil))))) (Tree.words (Edit.new (KidOf.e (List.getD (Edit.kids e) (Int.toNat x70_b) (KidOf.mk 0 Edit.nil))))) (Tree.kids (Edit.new (KidOf.e (List.getD (Edit.kids e) (Int.toNat x70_b) (KidOf.mk 0 Edit.nil)))))) (Edit.words (KidOf.e (List.getD (Edit.kids e) (Int.toNat x70_b) (KidOf.mk 0 Edit.nil)))) (Edit.kids (KidOf.e (List.getD (Edit.kids e) (Int.toNat x70_b) (KidOf.mk 0 Edit.nil)))) (Edit.list (KidOf.e (List.getD (Edit.kids e) (Int.toNat x70_b) (KidOf.mk 0 Edit.nil)))) (Edit.ops (KidOf.e (List.getD (Edit.kids e) (Int.toNat x70_b) (KidOf.mk 0 Edit.nil))))) (Tree.mk (Tree.kind (kidAt (Tree.mk (Tree.kind t) (Tree.words t) (Tree.kids t)) (KidOf.at_ (List.getD (Edit.kids e) (Int.toNat x70_b) (KidOf.mk 0 Edit.nil))))) (Tree.words (kidAt (Tree.mk (Tree.kind t) (Tree.words t) (Tree.kids t)) (KidOf.at_ (List.getD (Edit.kids e) (Int.toNat x70_b) (KidOf.mk 0 Edit.nil))))) (Tree.kids (kidAt (Tree.mk (Tree.kind t) (Tree.words t) (Tree.kids t)) (KidOf.at_ (List.getD (Edit.kids e) (Int.toNat x70_b) (KidOf.mk 0 Edit.nil))))))).isSome))))], [((.loc 3), [.int .i64 (Tree.kind t), .slice (U := U) .u64 (Tree.words t) .unk, .slice (U := U) .tree (Tree.kids t) .unk]), ((.loc 4), [.int .i64 0, .nils, .nils]), ((.loc 6), [.int .i64 1, .mref (.l 6 1), .mref (.l 6 2)]), ((.loc 11), [.int .i64 (KidOf.at_ (List.getD (Edit.kids e) (Int.toNat x70_b) (KidOf.mk 0 Edit.nil))), .int .i64 (Edit.kind (KidOf.e (List.getD (Edit.kids e) (Int.toNat x70_b) (KidOf.mk 0 Edit.nil)))), .int .i64 (Tree.kind (Edit.old (KidOf.e (List.getD (Edit.kids e) (Int.toNat x70_b) (KidOf.mk 0 Edit.nil))))), .slice (U := U) .u64 (Tree.words (Edit.old (KidOf.e (List.getD (Edit.kids e) (Int.toNat x70_b) (KidOf.mk 0 Edit.nil))))) .unk, .slice (U := U) .tree (Tree.kids (Edit.old (KidOf.e (List.getD (Edit.kids e) (Int.toNat x70_b) (KidOf.mk 0 Edit.nil))))) .unk, .int .i64 (Tree.kind (Edit.new (KidOf.e (List.getD (Edit.kids e) (Int.toNat x70_b) (KidOf.mk 0 Edit.nil))))), .slice (U := U) .u64 (Tree.words (Edit.new (KidOf.e (List.getD (Edit.kids e) (Int.toNat x70_b) (KidOf.mk 0 Edit.nil))))) .unk, .slice (U := U) .tree (Tree.kids (Edit.new (KidOf.e (List.getD (Edit.kids e) (Int.toNat x70_b) (KidOf.mk 0 Edit.nil))))) .unk, .slice (U := U) .wedit (Edit.words (KidOf.e (List.getD (Edit.kids e) (Int.toNat x70_b) (KidOf.mk 0 Edit.nil)))) .unk, .slice (U := U) .kid (Edit.kids (KidOf.e (List.getD (Edit.kids e) (Int.toNat x70_b) (KidOf.mk 0 Edit.nil)))) .unk, .int .i64 (Edit.list (KidOf.e (List.getD (Edit.kids e) (Int.toNat x70_b) (KidOf.mk 0 Edit.nil)))), .slice (U := U) .op (Edit.ops (KidOf.e (List.getD (Edit.kids e) (Int.toNat x70_b) (KidOf.mk 0 Edit.nil)))) .unk]), ((.loc 12), [.int .i64 (Tree.kind (oneT (Edit.mk (Edit.kind (KidOf.e (List.getD (Edit.kids e) (Int.toNat x70_b) (KidOf.mk 0 Edit.nil)))) (Tree.mk (Tree.kind (Edit.old (KidOf.e (List.getD (Edit.kids e) (Int.toNat x70_b) (KidOf.mk 0 Edit.nil))))) (Tree.words (Edit.old (KidOf.e (List.getD (Edit.kids e) (Int.toNat x70_b) (KidOf.mk 0 Edit.nil))))) (Tree.kids (Edit.old (KidOf.e (List.getD (Edit.kids e) (Int.toNat x70_b) (KidOf.mk 0 Edit.nil)))))) (Tree.mk (Tree.kind (Edit.new (KidOf.e (List.getD (Edit.kids e) (Int.toNat x70_b) (KidOf.mk 0 Edit.nil))))) (Tree.words (Edit.new (KidOf.e (List.getD (Edit.kids e) (Int.toNat x70_b) (KidOf.mk 0 Edit.nil))))) (Tree.kids (Edit.new (KidOf.e (List.getD (Edit.kids e) (Int.toNat x70_b) (KidOf.mk 0 Edit.nil)))))) (Edit.words (KidOf.e (List.getD (Edit.kids e) (Int.toNat x70_b) (KidOf.mk 0 Edit.nil)))) (Edit.kids (KidOf.e (List.getD (Edit.kids e) (Int.toNat x70_b) (KidOf.mk 0 Edit.nil)))) (Edit.list (KidOf.e (List.getD (Edit.kids e) (Int.toNat x70_b) (KidOf.mk 0 Edit.nil)))) (Edit.ops (KidOf.e (List.getD (Edit.kids e) (Int.toNat x70_b) (KidOf.mk 0 Edit.nil))))) (Tree.mk (Tree.kind (kidAt (Tree.mk (Tree.kind t) (Tree.words t) (Tree.kids t)) (KidOf.at_ (List.getD (Edit.kids e) (Int.toNat x70_b) (KidOf.mk 0 Edit.nil))))) (Tree.words (kidAt (Tree.mk (Tree.kind t) (Tree.words t) (Tree.kids t)) (KidOf.at_ (List.getD (Edit.kids e) (Int.toNat x70_b) (KidOf.mk 0 Edit.nil))))) (Tree.kids (kidAt (Tree.mk (Tree.kind t) (Tree.words t) (Tree.kids t)) (KidOf.at_ (List.getD (Edit.kids e) (Int.toNat x70_b) (KidOf.mk 0 Edit.nil)))))))), .slice (U := U) .u64 (Tree.words (oneT (Edit.mk (Edit.kind (KidOf.e (List.getD (Edit.kids e) (Int.toNat x70_b) (KidOf.mk 0 Edit.nil)))) (Tree.mk (Tree.kind (Edit.old (KidOf.e (List.getD (Edit.kids e) (Int.toNat x70_b) (KidOf.mk 0 Edit.nil))))) (Tree.words (Edit.old (KidOf.e (List.getD (Edit.kids e) (Int.toNat x70_b) (KidOf.mk 0 Edit.nil))))) (Tree.kids (Edit.old (KidOf.e (List.getD (Edit.kids e) (Int.toNat x70_b) (KidOf.mk 0 Edit.nil)))))) (Tree.mk (Tree.kind (Edit.new (KidOf.e (List.getD (Edit.kids e) (Int.toNat x70_b) (KidOf.mk 0 Edit.nil))))) (Tree.words (Edit.new (KidOf.e (List.getD (Edit.kids e) (Int.toNat x70_b) (KidOf.mk 0 Edit.nil))))) (Tree.kids (Edit.new (KidOf.e (List.getD (Edit.kids e) (Int.toNat x70_b) (KidOf.mk 0 Edit.nil)))))) (Edit.words (KidOf.e (List.getD (Edit.kids e) (Int.toNat x70_b) (KidOf.mk 0 Edit.nil)))) (Edit.kids (KidOf.e (List.getD (Edit.kids e) (Int.toNat x70_b) (KidOf.mk 0 Edit.nil)))) (Edit.list (KidOf.e (List.getD (Edit.kids e) (Int.toNat x70_b) (KidOf.mk 0 Edit.nil)))) (Edit.ops (KidOf.e (List.getD (Edit.kids e) (Int.toNat x70_b) (KidOf.mk 0 Edit.nil))))) (Tree.mk (Tree.kind (kidAt (Tree.mk (Tree.kind t) (Tree.words t) (Tree.kids t)) (KidOf.at_ (List.getD (Edit.kids e) (Int.toNat x70_b) (KidOf.mk 0 Edit.nil))))) (Tree.words (kidAt (Tree.mk (Tree.kind t) (Tree.words t) (Tree.kids t)) (KidOf.at_ (List.getD (Edit.kids e) (Int.toNat x70_b) (KidOf.mk 0 Edit.nil))))) (Tree.kids (kidAt (Tree.mk (Tree.kind t) (Tree.words t) (Tree.kids t)) (KidOf.at_ (List.getD (Edit.kids e) (Int.toNat x70_b) (KidOf.mk 0 Edit.nil)))))))) .unk, .slice (U := U) .tree (Tree.kids (oneT (Edit.mk (Edit.kind (KidOf.e (List.getD (Edit.kids e) (Int.toNat x70_b) (KidOf.mk 0 Edit.nil)))) (Tree.mk (Tree.kind (Edit.old (KidOf.e (List.getD (Edit.kids e) (Int.toNat x70_b) (KidOf.mk 0 Edit.nil))))) (Tree.words (Edit.old (KidOf.e (List.getD (Edit.kids e) (Int.toNat x70_b) (KidOf.mk 0 Edit.nil))))) (Tree.kids (Edit.old (KidOf.e (List.getD (Edit.kids e) (Int.toNat x70_b) (KidOf.mk 0 Edit.nil)))))) (Tree.mk (Tree.kind (Edit.new (KidOf.e (List.getD (Edit.kids e) (Int.toNat x70_b) (KidOf.mk 0 Edit.nil))))) (Tree.words (Edit.new (KidOf.e (List.getD (Edit.kids e) (Int.toNat x70_b) (KidOf.mk 0 Edit.nil))))) (Tree.kids (Edit.new (KidOf.e (List.getD (Edit.kids e) (Int.toNat x70_b) (KidOf.mk 0 Edit.nil)))))) (Edit.words (KidOf.e (List.getD (Edit.kids e) (Int.toNat x70_b) (KidOf.mk 0 Edit.nil)))) (Edit.kids (KidOf.e (List.getD (Edit.kids e) (Int.toNat x70_b) (KidOf.mk 0 Edit.nil)))) (Edit.list (KidOf.e (List.getD (Edit.kids e) (Int.toNat x70_b) (KidOf.mk 0 Edit.nil)))) (Edit.ops (KidOf.e (List.getD (Edit.kids e) (Int.toNat x70_b) (KidOf.mk 0 Edit.nil))))) (Tree.mk (Tree.kind (kidAt (Tree.mk (Tree.kind t) (Tree.words t) (Tree.kids t)) (KidOf.at_ (List.getD (Edit.kids e) (Int.toNat x70_b) (KidOf.mk 0 Edit.nil))))) (Tree.words (kidAt (Tree.mk (Tree.kind t) (Tree.words t) (Tree.kids t)) (KidOf.at_ (List.getD (Edit.kids e) (Int.toNat x70_b) (KidOf.mk 0 Edit.nil))))) (Tree.kids (kidAt (Tree.mk (Tree.kind t) (Tree.words t) (Tree.kids t)) (KidOf.at_ (List.getD (Edit.kids e) (Int.toNat x70_b) (KidOf.mk 0 Edit.nil)))))))) .unk])], [(.l 6 1, LC.mk (U := U) .u64 rl_6_1 0), (.l 6 2, LC.mk (U := U) .tree rl_6_2_c 0)]⟩ : LSt U)
noncomputable abbrev A113 (N : Nat) (p : List Nat) := awp cfg (know (know113 N)) (drawOk cfg (know (know113 N))) Try.f113.ntmps lv113 (cd Try.f113 p)
noncomputable abbrev S113 (N : Nat) (p : List Nat) := seqK cfg (know (know113 N)) (drawOk cfg (know (know113 N))) Try.f113.ntmps lv113 (cd Try.f113 p)
theorem vc113 (N : Nat) (e : Edit) (t : Tree) (Q : AExit → LSt U → Prop) (h : ((((((Tree.kind t) : Int) != 1) = true → (Q .ret (⟨[(4, .ptr (.loc 4) 0), (5, .c (.bool false))], [((.loc 4), [.int .i64 0, .nils, .nils])], []⟩ : LSt U))) ∧ ((((Tree.kind t) : Int) != 1) = false → (pre1071 ((Tree.words t), ())) ∧ (pre126 ((Tree.kids t), ())) ∧ ((LoopWp (A113 N [1, 1, 1, 0, 1, 0, 0]) (head113_0 e t 0 (Tree.words t)) (AExit.inBlock 0 (S113 N [1, 1, 1, 1] Q)))))))) :
    A113 N [] (⟨[(0, .agg [.int .i64 (Edit.kind e), .int .i64 (Tree.kind (Edit.old e)), .slice (U := U) .u64 (Tree.words (Edit.old e)) .unk, .slice (U := U) .tree (Tree.kids (Edit.old e)) .unk, .int .i64 (Tree.kind (Edit.new e)), .slice (U := U) .u64 (Tree.words (Edit.new e)) .unk, .slice (U := U) .tree (Tree.kids (Edit.new e)) .unk, .slice (U := U) .wedit (Edit.words e) .unk, .slice (U := U) .kid (Edit.kids e) .unk, .int .i64 (Edit.list e), .slice (U := U) .op (Edit.ops e) .unk]), (1, .agg [.int .i64 (Tree.kind t), .slice (U := U) .u64 (Tree.words t) .unk, .slice (U := U) .tree (Tree.kids t) .unk])], [], []⟩ : LSt U) Q :=
  Eq.mpr (by kernel_rfl) h
theorem vc113_l0 (N : Nat) (e : Edit) (t : Tree) (x28 : Int) (rl_6_1 : List Int) (N0 : LSt U → Prop) (Q : AExit → LSt U → Prop) (h : ∀ y_1, y_1 = (t) → ∀ y_2, y_2 = (List.getD (Edit.words e) (Int.toNat x28) (WEdit.mk 0 0 0 0)) → (((decide ((x28 : Int) < ((Edit.words e).length : Int))) = true → ((0 : Int) ≤ x28 ∧ x28 < ((Edit.words e).length : Int)) ∧ ((pre73 (y_1, (WEdit.at_ y_2), ())) ∧ ((pre127 (0, (wordAt y_1 (WEdit.at_ y_2)), (WEdit.mask y_2), ())) ∧ (((((mix 0 (wordAt y_1 (WEdit.at_ y_2)) (WEdit.mask y_2)) : Int) != (WEdit.old y_2)) = true → (Q .ret (⟨[(4, .ptr (.loc 4) 0), (5, .c (.bool false))], [((.loc 4), [.int .i64 0, .nils, .nils])], []⟩ : LSt U))) ∧ ((((mix 0 (wordAt y_1 (WEdit.at_ y_2)) (WEdit.mask y_2)) : Int) != (WEdit.old y_2)) = false → LoopWp (A113 N [1, 1, 1, 0, 1, 0, 0, 1, 1, 0, 0, 1, 1, 1, 0, 0, 0]) (head113_1 e t x28 rl_6_1) (AExit.inBlock 2 (S113 N [1, 1, 1, 0, 1, 0, 0, 1, 1, 0, 0, 1, 1, 1, 1] (AExit.inBlock 1 (S113 N [1, 1, 1, 0, 1, 0, 0, 1, 1, 1] (AExit.then N0 (AExit.inBlock 0 (S113 N [1, 1, 1, 1] Q)))))))))))) ∧ ((decide ((x28 : Int) < ((Edit.words e).length : Int))) = false → (LoopWp (A113 N [1, 1, 1, 1, 0, 1, 0, 0]) (head113_2 e t rl_6_1 0 (Tree.kids t)) (AExit.inBlock 4 (S113 N [1, 1, 1, 1, 1] Q)))))) :
    A113 N [1, 1, 1, 0, 1, 0, 0] (head113_0 e t x28 rl_6_1) (AExit.then N0 (AExit.inBlock 0 (S113 N [1, 1, 1, 1] Q))) :=
  Eq.mpr (by kernel_rfl) (h _ (reTree_eq _) _ rfl)
theorem vc113_l1 (N : Nat) (e : Edit) (t : Tree) (x28 : Int) (rl_6_1_a : List Int) (N1 : LSt U → Prop) (N0 : LSt U → Prop) (Q : AExit → LSt U → Prop) (h : (((decide (((rl_6_1_a.length : Int) : Int) ≤ (WEdit.at_ (List.getD (Edit.words e) (Int.toNat x28) (WEdit.mk 0 0 0 0))))) = true → ((rl_6_1_a.length + ([0]).length) * 8 ≤ 140737488355328) ∧ (N1 (head113_1 e t x28 (rl_6_1_a ++ ([0]))))) ∧ ((decide (((rl_6_1_a.length : Int) : Int) ≤ (WEdit.at_ (List.getD (Edit.words e) (Int.toNat x28) (WEdit.mk 0 0 0 0))))) = false → (pre127 ((wordAt (Tree.mk (Tree.kind t) (Tree.words t) (Tree.kids t)) (WEdit.at_ (List.getD (Edit.words e) (Int.toNat x28) (WEdit.mk 0 0 0 0)))), (WEdit.new (List.getD (Edit.words e) (Int.toNat x28) (WEdit.mk 0 0 0 0))), (WEdit.mask (List.getD (Edit.words e) (Int.toNat x28) (WEdit.mk 0 0 0 0))), ())) ∧ ((0 : Int) ≤ (WEdit.at_ (List.getD (Edit.words e) (Int.toNat x28) (WEdit.mk 0 0 0 0))) ∧ (WEdit.at_ (List.getD (Edit.words e) (Int.toNat x28) (WEdit.mk 0 0 0 0))) < (rl_6_1_a.length : Int)) ∧ ((0 : Nat) ≤ (Int.toNat (WEdit.at_ (List.getD (Edit.words e) (Int.toNat x28) (WEdit.mk 0 0 0 0))))) ∧ ((InR ((x28 : Int) + 1)) ∧ (N0 (head113_0 e t ((x28 : Int) + 1) (List.set rl_6_1_a (Int.toNat (WEdit.at_ (List.getD (Edit.words e) (Int.toNat x28) (WEdit.mk 0 0 0 0)))) (mix (wordAt (Tree.mk (Tree.kind t) (Tree.words t) (Tree.kids t)) (WEdit.at_ (List.getD (Edit.words e) (Int.toNat x28) (WEdit.mk 0 0 0 0)))) (WEdit.new (List.getD (Edit.words e) (Int.toNat x28) (WEdit.mk 0 0 0 0))) (WEdit.mask (List.getD (Edit.words e) (Int.toNat x28) (WEdit.mk 0 0 0 0))))))))))) :
    A113 N [1, 1, 1, 0, 1, 0, 0, 1, 1, 0, 0, 1, 1, 1, 0, 0, 0] (head113_1 e t x28 rl_6_1_a) (AExit.then N1 (AExit.inBlock 2 (S113 N [1, 1, 1, 0, 1, 0, 0, 1, 1, 0, 0, 1, 1, 1, 1] (AExit.inBlock 1 (S113 N [1, 1, 1, 0, 1, 0, 0, 1, 1, 1] (AExit.then N0 (AExit.inBlock 0 (S113 N [1, 1, 1, 1] Q)))))))) :=
  Eq.mpr (by kernel_rfl) h
theorem vc113_l2 (N : Nat) (e : Edit) (t : Tree) (rl_6_1 : List Int) (x70_b : Int) (rl_6_2_b : List Tree) (N2 : LSt U → Prop) (Q : AExit → LSt U → Prop) (h : ∀ y_1, y_1 = (t) → ∀ y_2, y_2 = (List.getD (Edit.kids e) (Int.toNat x70_b) (KidOf.mk 0 Edit.nil)) → ∀ y_3, y_3 = ((KidOf.e y_2)) → ∀ y_4, y_4 = ((kidAt y_1 (KidOf.at_ y_2))) → (((decide ((x70_b : Int) < ((Edit.kids e).length : Int))) = true → ((0 : Int) ≤ x70_b ∧ x70_b < ((Edit.kids e).length : Int)) ∧ ((pre74 (y_1, (KidOf.at_ y_2), ())) ∧ (pre82 (y_3, y_4, ())) ∧ (mu82 (y_3, y_4, ()) < N) ∧ ((((!((doE false y_3 y_4).isSome)) = true → (Q .ret (⟨[(4, .ptr (.loc 4) 0), (5, .c (.bool false))], [((.loc 4), [.int .i64 0, .nils, .nils])], []⟩ : LSt U))) ∧ ((!((doE false y_3 y_4).isSome)) = false → LoopWp (A113 N [1, 1, 1, 1, 0, 1, 0, 0, 1, 1, 0, 0, 1, 1, 1, 0, 0, 0]) (head113_3 e t rl_6_1 x70_b rl_6_2_b) (AExit.inBlock 6 (S113 N [1, 1, 1, 1, 0, 1, 0, 0, 1, 1, 0, 0, 1, 1, 1, 1] (AExit.inBlock 5 (S113 N [1, 1, 1, 1, 0, 1, 0, 0, 1, 1, 1] (AExit.then N2 (AExit.inBlock 4 (S113 N [1, 1, 1, 1, 1] Q)))))))))))) ∧ ((decide ((x70_b : Int) < ((Edit.kids e).length : Int))) = false → (Q .ret (⟨[(4, .ptr (.loc 4) 0), (5, .c (.bool true))], [((.loc 4), [.int .i64 1, .slice (U := U) .u64 rl_6_1 (.own (.l 4 1)), .slice (U := U) .tree rl_6_2_b (.own (.l 4 2))])], []⟩ : LSt U))))) :
    A113 N [1, 1, 1, 1, 0, 1, 0, 0] (head113_2 e t rl_6_1 x70_b rl_6_2_b) (AExit.then N2 (AExit.inBlock 4 (S113 N [1, 1, 1, 1, 1] Q))) :=
  Eq.mpr (by kernel_rfl) (h _ (reTree_eq _) _ rfl _ (reEdit_eq _) _ (reTree_eq _))
theorem vc113_l3 (N : Nat) (e : Edit) (t : Tree) (rl_6_1 : List Int) (x70_b : Int) (rl_6_2_c : List Tree) (N3 : LSt U → Prop) (N2 : LSt U → Prop) (Q : AExit → LSt U → Prop) (h : ∀ y_1, y_1 = (t) → ∀ y_2, y_2 = (List.getD (Edit.kids e) (Int.toNat x70_b) (KidOf.mk 0 Edit.nil)) → ∀ y_3, y_3 = ((KidOf.e y_2)) → ∀ y_4, y_4 = ((kidAt y_1 (KidOf.at_ y_2))) → ∀ y_5, y_5 = ((oneT y_3 y_4)) → (((decide (((rl_6_2_c.length : Int) : Int) ≤ (KidOf.at_ y_2))) = true → ((rl_6_2_c.length + ([(Tree.mk 0 ([]) ([]))]).length) * 56 ≤ 140737488355328) ∧ (N3 (head113_3 e t rl_6_1 x70_b (rl_6_2_c ++ ([(Tree.mk 0 ([]) ([]))]))))) ∧ ((decide (((rl_6_2_c.length : Int) : Int) ≤ (KidOf.at_ y_2))) = false → ((0 : Int) ≤ (KidOf.at_ y_2) ∧ (KidOf.at_ y_2) < (rl_6_2_c.length : Int)) ∧ ((0 : Nat) ≤ (Int.toNat (KidOf.at_ y_2))) ∧ ((InR ((x70_b : Int) + 1)) ∧ (N2 (head113_2 e t rl_6_1 ((x70_b : Int) + 1) (List.set rl_6_2_c (Int.toNat (KidOf.at_ y_2)) y_5))))))) :
    A113 N [1, 1, 1, 1, 0, 1, 0, 0, 1, 1, 0, 0, 1, 1, 1, 0, 0, 0] (head113_3 e t rl_6_1 x70_b rl_6_2_c) (AExit.then N3 (AExit.inBlock 6 (S113 N [1, 1, 1, 1, 0, 1, 0, 0, 1, 1, 0, 0, 1, 1, 1, 1] (AExit.inBlock 5 (S113 N [1, 1, 1, 1, 0, 1, 0, 0, 1, 1, 1] (AExit.then N2 (AExit.inBlock 4 (S113 N [1, 1, 1, 1, 1] Q)))))))) :=
  Eq.mpr (by kernel_rfl) (h _ (reTree_eq _) _ rfl _ (reEdit_eq _) _ (reTree_eq _) _ (reTree_eq _))
def Body113 (N : Nat) (e : Edit) (t : Tree)  : Prop := awp cfg (know (know113 N)) (drawOk cfg (know (know113 N))) Try.f113.ntmps lv113 (cd Try.f113 []) (entry (args113.can (e, t, ())) []) (EndsQ cfg Try.f113.ntmps Try.f113.results.toList (res113 (e, t, ())) [])
abbrev HB113 : Prop := ∀ (N : Nat) (e : Edit) (t : Tree) (_ : Unit), pre113 (e, t, ()) → mu113 (e, t, ()) < N + 1 → Body113 N e t
noncomputable def know114 (N : Nat) : List (FuncId × Fs U) := (82, fs args82 (fun a => [pre82 a, mu82 a < N]) res82) :: (113, fs args113 (fun a => [pre113 a, mu113 a < N]) res113) :: (114, fs args114 (fun a => [pre114 a, mu114 a < N]) res114) :: [(34, spec34), (73, spec73), (74, spec74), (96, spec96), (126, spec126), (127, spec127), (71, spec1071)]
def lv114 : Lives U := fun i => match i with
  | 0 => ([(2, []), (3, []), (4, [])], [((.loc 2), []), ((.loc 3), []), ((.loc 4), [])])
  | 1 => ([(2, []), (3, []), (4, []), (18, [])], [((.loc 2), []), ((.loc 3), []), ((.loc 4), [])])
  | 2 => ([(4, []), (5, [])], [((.loc 4), [])])
  | 3 => ([(2, []), (3, []), (4, []), (6, [])], [((.loc 2), []), ((.loc 3), []), ((.loc 4), []), ((.loc 6), [])])
  | 4 => ([(2, []), (4, []), (6, []), (7, [])], [((.loc 2), []), ((.loc 4), []), ((.loc 6), [])])
  | 5 => ([(4, []), (6, []), (7, []), (26, []), (27, []), (28, [])], [((.loc 4), []), ((.loc 6), [.any, .any, .own .tree])])
  | 6 => ([(4, []), (6, []), (7, []), (26, []), (27, []), (28, []), (29, [])], [((.loc 4), []), ((.loc 6), [])])
  | 7 => ([(4, []), (6, []), (7, []), (9, []), (26, []), (27, []), (28, [])], [((.loc 4), []), ((.loc 6), []), ((.loc 9), [])])
  | 8 => ([(4, []), (6, []), (7, []), (9, []), (10, []), (26, []), (27, []), (28, [])], [((.loc 4), []), ((.loc 6), []), ((.loc 9), [])])
  | 9 => ([(4, []), (6, []), (7, []), (9, []), (10, []), (26, []), (27, []), (28, []), (35, [])], [((.loc 4), []), ((.loc 6), []), ((.loc 9), [])])
  | 10 => ([(4, []), (6, []), (7, []), (9, []), (10, []), (26, []), (27, []), (28, []), (35, []), (36, [])], [((.loc 4), []), ((.loc 6), []), ((.loc 9), [])])
  | 11 => ([(4, []), (6, []), (7, []), (26, []), (27, []), (28, []), (97, [])], [((.loc 4), []), ((.loc 6), [])])
  | 12 => ([(4, []), (6, []), (7, []), (9, []), (10, []), (26, []), (27, []), (28, []), (35, []), (44, [])], [((.loc 4), []), ((.loc 6), []), ((.loc 9), [])])
  | 13 => ([(4, []), (6, []), (7, []), (9, []), (10, []), (26, []), (27, []), (28, []), (49, [])], [((.loc 4), []), ((.loc 6), []), ((.loc 9), [])])
  | 14 => ([(4, []), (6, []), (7, []), (9, []), (10, []), (26, []), (27, []), (28, []), (49, [])], [((.loc 4), []), ((.loc 6), []), ((.loc 9), [])])
  | 15 => ([(4, []), (6, []), (7, []), (9, []), (10, []), (26, []), (27, []), (28, []), (49, [])], [((.loc 4), []), ((.loc 6), []), ((.loc 9), [])])
  | 16 => ([(4, []), (6, []), (7, []), (9, []), (10, []), (26, []), (27, []), (28, []), (54, [])], [((.loc 4), []), ((.loc 6), []), ((.loc 9), [])])
  | 17 => ([(4, []), (5, [])], [((.loc 4), [])])
  | 18 => ([(4, []), (6, []), (7, []), (9, []), (10, []), (26, []), (27, []), (28, [])], [((.loc 4), []), ((.loc 6), []), ((.loc 9), [])])
  | 19 => ([(4, []), (6, []), (7, []), (9, []), (11, []), (26, []), (27, []), (28, [])], [((.loc 4), []), ((.loc 6), []), ((.loc 9), [])])
  | 20 => ([(4, []), (6, []), (7, []), (12, []), (13, []), (26, []), (27, []), (28, [])], [((.loc 4), []), ((.loc 6), []), ((.loc 12), [])])
  | 21 => ([(4, []), (6, []), (7, []), (12, []), (26, []), (27, []), (28, []), (72, [])], [((.loc 4), []), ((.loc 6), []), ((.loc 12), [])])
  | 22 => ([(4, []), (5, [])], [((.loc 4), [])])
  | 23 => ([(4, []), (6, []), (7, []), (26, []), (27, []), (28, []), (97, [])], [((.loc 4), []), ((.loc 6), [])])
  | 24 => ([(4, []), (6, []), (7, []), (9, []), (11, []), (26, []), (27, []), (28, []), (80, [])], [((.loc 4), []), ((.loc 6), []), ((.loc 9), [])])
  | 25 => ([(4, []), (6, []), (7, []), (26, []), (27, []), (28, []), (97, [])], [((.loc 4), []), ((.loc 6), [])])
  | 26 => ([(4, []), (6, []), (7, []), (9, []), (11, []), (26, []), (27, []), (28, []), (89, [])], [((.loc 4), []), ((.loc 6), []), ((.loc 9), [])])
  | 27 => ([(4, []), (6, []), (7, []), (26, []), (27, []), (28, []), (97, [])], [((.loc 4), []), ((.loc 6), [])])
  | 28 => ([(4, []), (5, [])], [((.loc 4), [])])
  | 29 => ([(4, []), (6, []), (7, []), (26, []), (27, []), (28, [])], [((.loc 4), []), ((.loc 6), [.any, .any, .own .tree])])
  | 30 => ([(4, []), (5, [])], [((.loc 4), [])])
  | _ => ([], [])
noncomputable def head114_0 (e : Edit) (t : Tree) (x28 : Int) (x7 : List Tree) (ml6_2 : List Tree) : LSt U := (⟨[(4, .ptr (.loc 4) 0), (6, .ptr (.loc 6) 0), (7, .c (.slice (U := U) .tree x7 .unk)), (26, .c (.slice (U := U) .op (Edit.ops e) .unk)), (27, .c (.int .i64 ((Edit.ops e).length : Int))), (28, .c (.int .i64 x28))], [((.loc 4), [.int .i64 0, .nils, .nils]), ((.loc 6), [.int .i64 (Tree.kind t), .nils, .slice (U := U) .tree ml6_2 (.own (.l 6 2))])], []⟩ : LSt U)
noncomputable def head114_1 (e : Edit) (t : Tree) (x28 : Int) (x7_a : List Tree) (ml6_2_a : List Tree) (v97_a : V U) : LSt U := (⟨[(4, .ptr (.loc 4) 0), (6, .ptr (.loc 6) 0), (7, .c (.slice (U := U) .tree x7_a .unk)), (26, .c (.slice (U := U) .op (Edit.ops e) .unk)), (27, .c (.int .i64 ((Edit.ops e).length : Int))), (28, .c (.int .i64 x28)), (97, v97_a)], [((.loc 4), [.int .i64 0, .nils, .nils]), ((.loc 6), [.int .i64 (Tree.kind t), .nils, .slice (U := U) .tree ml6_2_a (.own (.l 6 2))])], []⟩ : LSt U)
noncomputable def head114_2 (e : Edit) (t : Tree) (x28 : Int) (x7 : List Tree) (ml6_2 : List Tree) (x10_b : Int) (v49_b : V U) : LSt U := (⟨[(4, .ptr (.loc 4) 0), (6, .ptr (.loc 6) 0), (7, .c (.slice (U := U) .tree x7 .unk)), (9, .ptr (.loc 9) 0), (10, .c (.int .i64 x10_b)), (26, .c (.slice (U := U) .op (Edit.ops e) .unk)), (27, .c (.int .i64 ((Edit.ops e).length : Int))), (28, .c (.int .i64 x28)), (49, v49_b)], [((.loc 4), [.int .i64 0, .nils, .nils]), ((.loc 6), [.int .i64 (Tree.kind t), .nils, .slice (U := U) .tree ml6_2 (.own (.l 6 2))]), ((.loc 9), [.int .i64 (OpOf.kind (List.getD (Edit.ops e) (Int.toNat x28) Op.nil)), .int .i64 (OpOf.n (List.getD (Edit.ops e) (Int.toNat x28) Op.nil)), .slice (U := U) .tree (OpOf.l (List.getD (Edit.ops e) (Int.toNat x28) Op.nil)) .unk, .int .i64 (Edit.kind (OpOf.e (List.getD (Edit.ops e) (Int.toNat x28) Op.nil))), .int .i64 (Tree.kind (Edit.old (OpOf.e (List.getD (Edit.ops e) (Int.toNat x28) Op.nil)))), .slice (U := U) .u64 (Tree.words (Edit.old (OpOf.e (List.getD (Edit.ops e) (Int.toNat x28) Op.nil)))) .unk, .slice (U := U) .tree (Tree.kids (Edit.old (OpOf.e (List.getD (Edit.ops e) (Int.toNat x28) Op.nil)))) .unk, .int .i64 (Tree.kind (Edit.new (OpOf.e (List.getD (Edit.ops e) (Int.toNat x28) Op.nil)))), .slice (U := U) .u64 (Tree.words (Edit.new (OpOf.e (List.getD (Edit.ops e) (Int.toNat x28) Op.nil)))) .unk, .slice (U := U) .tree (Tree.kids (Edit.new (OpOf.e (List.getD (Edit.ops e) (Int.toNat x28) Op.nil)))) .unk, .slice (U := U) .wedit (Edit.words (OpOf.e (List.getD (Edit.ops e) (Int.toNat x28) Op.nil))) .unk, .slice (U := U) .kid (Edit.kids (OpOf.e (List.getD (Edit.ops e) (Int.toNat x28) Op.nil))) .unk, .int .i64 (Edit.list (OpOf.e (List.getD (Edit.ops e) (Int.toNat x28) Op.nil))), .slice (U := U) .op (Edit.ops (OpOf.e (List.getD (Edit.ops e) (Int.toNat x28) Op.nil))) .unk])], []⟩ : LSt U)
noncomputable abbrev A114 (N : Nat) (p : List Nat) := awp cfg (know (know114 N)) (drawOk cfg (know (know114 N))) Try.f114.ntmps lv114 (cd Try.f114 p)
noncomputable abbrev S114 (N : Nat) (p : List Nat) := seqK cfg (know (know114 N)) (drawOk cfg (know (know114 N))) Try.f114.ntmps lv114 (cd Try.f114 p)
theorem vc114 (N : Nat) (e : Edit) (t : Tree) (Q : AExit → LSt U → Prop) (h : ((((((Tree.kind t) : Int) != (Edit.list e)) = true → (Q .ret (⟨[(4, .ptr (.loc 4) 0), (5, .c (.bool false))], [((.loc 4), [.int .i64 0, .nils, .nils])], []⟩ : LSt U))) ∧ ((((Tree.kind t) : Int) != (Edit.list e)) = false → (((LoopWp (A114 N [1, 1, 1, 1, 0, 1, 0, 0]) (head114_0 e t 0 (Tree.kids t) ([])) (AExit.inBlock 0 (S114 N [1, 1, 1, 1, 1] Q))))))))) :
    A114 N [] (⟨[(0, .agg [.int .i64 (Edit.kind e), .int .i64 (Tree.kind (Edit.old e)), .slice (U := U) .u64 (Tree.words (Edit.old e)) .unk, .slice (U := U) .tree (Tree.kids (Edit.old e)) .unk, .int .i64 (Tree.kind (Edit.new e)), .slice (U := U) .u64 (Tree.words (Edit.new e)) .unk, .slice (U := U) .tree (Tree.kids (Edit.new e)) .unk, .slice (U := U) .wedit (Edit.words e) .unk, .slice (U := U) .kid (Edit.kids e) .unk, .int .i64 (Edit.list e), .slice (U := U) .op (Edit.ops e) .unk]), (1, .agg [.int .i64 (Tree.kind t), .slice (U := U) .u64 (Tree.words t) .unk, .slice (U := U) .tree (Tree.kids t) .unk])], [], []⟩ : LSt U) Q :=
  Eq.mpr (by kernel_rfl) h
theorem vc114_l0 (N : Nat) (e : Edit) (t : Tree) (x28 : Int) (x7 : List Tree) (ml6_2 : List Tree) (N0 : LSt U → Prop) (Q : AExit → LSt U → Prop) (h : ∀ y_1, y_1 = (List.getD (Edit.ops e) (Int.toNat x28) Op.nil) → (((decide ((x28 : Int) < ((Edit.ops e).length : Int))) = true → ((0 : Int) ≤ x28 ∧ x28 < ((Edit.ops e).length : Int)) ∧ ((((((((OpOf.kind y_1) : Int) == 2) = true → ((ml6_2.length + (OpOf.l y_1).length) * 56 ≤ 140737488355328) ∧ (A114 N [1, 1, 1, 1, 0, 1, 0, 0, 1, 1, 1] (head114_1 e t x28 x7 (ml6_2 ++ (OpOf.l y_1)) .junk) (AExit.then N0 (AExit.inBlock 0 (S114 N [1, 1, 1, 1, 1] Q))))) ∧ ((((OpOf.kind y_1) : Int) == 2) = false → (((((OpOf.kind y_1) : Int) == 1) = true → (A114 N [1, 1, 1, 1, 0, 1, 0, 0, 1, 1, 0, 0, 1, 1, 1] (head114_2 e t x28 x7 ml6_2 ((OpOf.l y_1).length : Int) .junk) (AExit.inBlock 1 (S114 N [1, 1, 1, 1, 0, 1, 0, 0, 1, 1, 1] (AExit.then N0 (AExit.inBlock 0 (S114 N [1, 1, 1, 1, 1] Q))))))) ∧ ((((OpOf.kind y_1) : Int) == 1) = false → (((((OpOf.kind y_1) : Int) == 3) = true → (A114 N [1, 1, 1, 1, 0, 1, 0, 0, 1, 1, 0, 0, 1, 1, 1] (head114_2 e t x28 x7 ml6_2 1 (.c (.bool (((OpOf.kind y_1) : Int) == 3)))) (AExit.inBlock 1 (S114 N [1, 1, 1, 1, 0, 1, 0, 0, 1, 1, 1] (AExit.then N0 (AExit.inBlock 0 (S114 N [1, 1, 1, 1, 1] Q))))))) ∧ ((((OpOf.kind y_1) : Int) == 3) = false → A114 N [1, 1, 1, 1, 0, 1, 0, 0, 1, 1, 0, 0, 1, 1, 1] (head114_2 e t x28 x7 ml6_2 (OpOf.n y_1) (.c (.bool (((OpOf.kind y_1) : Int) == 3)))) (AExit.inBlock 1 (S114 N [1, 1, 1, 1, 0, 1, 0, 0, 1, 1, 1] (AExit.then N0 (AExit.inBlock 0 (S114 N [1, 1, 1, 1, 1] Q))))))))))))))) ∧ ((decide ((x28 : Int) < ((Edit.ops e).length : Int))) = false → (Q .ret (⟨[(4, .ptr (.loc 4) 0), (5, .c (.bool (((x7.length : Int) : Int) == 0)))], [((.loc 4), [.int .i64 (Tree.kind t), .nils, .slice (U := U) .tree ml6_2 (.own (.l 4 2))])], []⟩ : LSt U))))) :
    A114 N [1, 1, 1, 1, 0, 1, 0, 0] (head114_0 e t x28 x7 ml6_2) (AExit.then N0 (AExit.inBlock 0 (S114 N [1, 1, 1, 1, 1] Q))) :=
  Eq.mpr (by kernel_rfl) (h _ rfl)
theorem vc114_c1 (N : Nat) (e : Edit) (t : Tree) (x28 : Int) (x7_a : List Tree) (ml6_2_a : List Tree) (v97_a : V U) (N0 : LSt U → Prop) (Q : AExit → LSt U → Prop) (h : (InR ((x28 : Int) + 1)) ∧ (N0 (head114_0 e t ((x28 : Int) + 1) x7_a ml6_2_a))) :
    A114 N [1, 1, 1, 1, 0, 1, 0, 0, 1, 1, 1] (head114_1 e t x28 x7_a ml6_2_a v97_a) (AExit.then N0 (AExit.inBlock 0 (S114 N [1, 1, 1, 1, 1] Q))) :=
  Eq.mpr (by kernel_rfl) h
theorem vc114_c2 (N : Nat) (e : Edit) (t : Tree) (x28 : Int) (x7 : List Tree) (ml6_2 : List Tree) (x10_b : Int) (v49_b : V U) (N0 : LSt U → Prop) (Q : AExit → LSt U → Prop) (h : ∀ y_1, y_1 = (List.getD (Edit.ops e) (Int.toNat x28) Op.nil) → ∀ y_2, y_2 = (List.getD (List.take (Int.toNat x10_b) x7) (Int.toNat 0) Tree.nil) → ∀ y_3, y_3 = (y_2) → ∀ y_4, y_4 = ((OpOf.e y_1)) → ∀ y_5, y_5 = (eqX (normsT (OpOf.l y_1)) (normsT (List.take (Int.toNat x10_b) x7))) → ∀ y_6, y_6 = ((oneT y_4 y_3)) → (((decide (((x7.length : Int) : Int) < x10_b)) = true → (Q .ret (⟨[(4, .ptr (.loc 4) 0), (5, .c (.bool false))], [((.loc 4), [.int .i64 0, .nils, .nils])], []⟩ : LSt U))) ∧ ((decide (((x7.length : Int) : Int) < x10_b)) = false → (((0 : Int) ≤ x10_b ∧ x10_b ≤ (x7.length : Int)) ∧ ((0 : Int) ≤ x10_b ∧ x10_b ≤ (x7.length : Int)) ∧ ((((((OpOf.kind y_1) : Int) == 0) = true → ((ml6_2.length + (List.take (Int.toNat x10_b) x7).length) * 56 ≤ 140737488355328) ∧ (A114 N [1, 1, 1, 1, 0, 1, 0, 0, 1, 1, 1] (head114_1 e t x28 (List.drop (Int.toNat x10_b) x7) (ml6_2 ++ (List.take (Int.toNat x10_b) x7)) .junk) (AExit.then N0 (AExit.inBlock 0 (S114 N [1, 1, 1, 1, 1] Q))))) ∧ ((((OpOf.kind y_1) : Int) == 0) = false → (((((OpOf.kind y_1) : Int) == 1) = true → (pre96 ((OpOf.l y_1), (List.take (Int.toNat x10_b) x7), (), ())) ∧ (((!y_5) = true → (Q .ret (⟨[(4, .ptr (.loc 4) 0), (5, .c (.bool false))], [((.loc 4), [.int .i64 0, .nils, .nils])], []⟩ : LSt U))) ∧ ((!y_5) = false → A114 N [1, 1, 1, 1, 0, 1, 0, 0, 1, 1, 1] (head114_1 e t x28 (List.drop (Int.toNat x10_b) x7) ml6_2 (.c (.bool (!y_5)))) (AExit.then N0 (AExit.inBlock 0 (S114 N [1, 1, 1, 1, 1] Q)))))) ∧ ((((OpOf.kind y_1) : Int) == 1) = false → ((0 : Int) ≤ 0 ∧ 0 < ((List.take (Int.toNat x10_b) x7).length : Int)) ∧ (pre82 (y_4, y_3, ())) ∧ (mu82 (y_4, y_3, ()) < N) ∧ ((((!((doE false y_4 y_3).isSome)) = true → (Q .ret (⟨[(4, .ptr (.loc 4) 0), (5, .c (.bool false))], [((.loc 4), [.int .i64 0, .nils, .nils])], []⟩ : LSt U))) ∧ ((!((doE false y_4 y_3).isSome)) = false → ((ml6_2.length + ([y_6]).length) * 56 ≤ 140737488355328) ∧ (A114 N [1, 1, 1, 1, 0, 1, 0, 0, 1, 1, 1] (head114_1 e t x28 (List.drop (Int.toNat x10_b) x7) (ml6_2 ++ ([y_6])) .junk) (AExit.then N0 (AExit.inBlock 0 (S114 N [1, 1, 1, 1, 1] Q)))))))))))))))) :
    A114 N [1, 1, 1, 1, 0, 1, 0, 0, 1, 1, 0, 0, 1, 1, 1] (head114_2 e t x28 x7 ml6_2 x10_b v49_b) (AExit.inBlock 1 (S114 N [1, 1, 1, 1, 0, 1, 0, 0, 1, 1, 1] (AExit.then N0 (AExit.inBlock 0 (S114 N [1, 1, 1, 1, 1] Q))))) :=
  Eq.mpr (by kernel_rfl) (h _ rfl _ rfl _ (reTree_eq _) _ (reEdit_eq _) _ rfl _ (reTree_eq _))
def Body114 (N : Nat) (e : Edit) (t : Tree)  : Prop := awp cfg (know (know114 N)) (drawOk cfg (know (know114 N))) Try.f114.ntmps lv114 (cd Try.f114 []) (entry (args114.can (e, t, ())) []) (EndsQ cfg Try.f114.ntmps Try.f114.results.toList (res114 (e, t, ())) [])
abbrev HB114 : Prop := ∀ (N : Nat) (e : Edit) (t : Tree) (_ : Unit), pre114 (e, t, ()) → mu114 (e, t, ()) < N + 1 → Body114 N e t
theorem make82_ (c34 : Contract Try.prog cfg 34 spec34) (c73 : Contract Try.prog cfg 73 spec73) (c74 : Contract Try.prog cfg 74 spec74) (c96 : Contract Try.prog cfg 96 spec96) (c126 : Contract Try.prog cfg 126 spec126) (c127 : Contract Try.prog cfg 127 spec127) (c1071 : Contract Try.prog cfg 71 spec1071) (b82 : HB82) (b113 : HB113) (b114 : HB114) :
    Contract Try.prog cfg 82 spec82 ∧ Contract Try.prog cfg 113 spec113 ∧ Contract Try.prog cfg 114 spec114 := by
  have h82 : ∃ fn, Try.prog.funcs[(82 : FuncId)]? = some fn ∧ fn.body.isSome = true ∧ (fn.name == "runtime.NumGoroutine") = false := ⟨Try.f82, Try.func82, rfl, rfl⟩
  have h113 : ∃ fn, Try.prog.funcs[(113 : FuncId)]? = some fn ∧ fn.body.isSome = true ∧ (fn.name == "runtime.NumGoroutine") = false := ⟨Try.f113, Try.func113, rfl, rfl⟩
  have h114 : ∃ fn, Try.prog.funcs[(114 : FuncId)]? = some fn ∧ fn.body.isSome = true ∧ (fn.name == "runtime.NumGoroutine") = false := ⟨Try.f114, Try.func114, rfl, rfl⟩
  have key : ∀ N, Contract Try.prog cfg 82 (fs args82 (fun a => [pre82 a, mu82 a < N]) res82) ∧ Contract Try.prog cfg 113 (fs args113 (fun a => [pre113 a, mu113 a < N]) res113) ∧ Contract Try.prog cfg 114 (fs args114 (fun a => [pre114 a, mu114 a < N]) res114) := by
    intro N
    induction N with
    | zero => exact ⟨fs_zero h82, fs_zero h113, fs_zero h114⟩
    | succ N ih =>
      have kn := know_ok (l := know82 N) ⟨ih.1, ih.2.1, ih.2.2, c34, c73, c74, c96, c126, c127, c1071, trivial⟩
      exact ⟨contract_fs (Γ := know (know82 N)) cfgOk rfl kn lv82 Try.func82 rfl rfl (fun a => by show 2 ≤ _; decide) (fun ⟨e, t, _⟩ h => b82 N e t () h.1 h.2.1),
        contract_fs (Γ := know (know82 N)) cfgOk rfl kn lv113 Try.func113 rfl rfl (fun a => by show 2 ≤ _; decide) (fun ⟨e, t, _⟩ h => b113 N e t () h.1 h.2.1),
        contract_fs (Γ := know (know82 N)) cfgOk rfl kn lv114 Try.func114 rfl rfl (fun a => by show 2 ≤ _; decide) (fun ⟨e, t, _⟩ h => b114 N e t () h.1 h.2.1)⟩
  exact ⟨fs_less h82 fun N => (key N).1, fs_less h113 fun N => (key N).2.1, fs_less h114 fun N => (key N).2.2⟩
end Go.AM.Ytlahjnelghpmeaa

namespace Go.AM.Ytlahjnelghpmeaa
open Go.AM Go.Proofs
def args52 : ArgL (Edit × Tree × Unit) := (.cons (aEl .edit) (.cons (aEl .tree) .nil))
def pre52 (a : Edit × Tree × Unit) : Prop := (massE a.1 ≤ 1000000 ∧ rngE a.1 ∧ ∃ d, rightE a.1 d = true) ∧ mass a.2.1 ≤ 100000000000 ∧ rng a.2.1
noncomputable def res52 (a : Edit × Tree × Unit) : V U := .tup [(true, [.int .i64 (Tree.kind (orNil ((doE false a.1 a.2.1).map normT))), .slice (U := U) .u64 (Tree.words (orNil ((doE false a.1 a.2.1).map normT))) .unk, .slice (U := U) .tree (Tree.kids (orNil ((doE false a.1 a.2.1).map normT))) .unk]), (false, [.bool ((doE false a.1 a.2.1).isSome)])]
noncomputable def spec52 : Fs U := fs args52 (fun a => [pre52 a]) res52
noncomputable def know52 : List (FuncId × Fs U) := [(32, spec32), (82, spec82)]
def lv52 : Lives U := fun i => match i with
  | 0 => ([(2, []), (3, []), (4, [])], [((.loc 2), []), ((.loc 3), []), ((.loc 4), [])])
  | 1 => ([(4, []), (6, []), (7, [])], [((.loc 4), []), ((.loc 6), [])])
  | 2 => ([(4, []), (6, []), (15, [])], [((.loc 4), []), ((.loc 6), [])])
  | 3 => ([(4, []), (5, [])], [((.loc 4), [])])
  | 4 => ([(4, []), (5, [])], [((.loc 4), [])])
  | _ => ([], [])
noncomputable abbrev A52 (p : List Nat) := awp cfg (know know52) (drawOk cfg (know know52)) Try.f52.ntmps lv52 (cd Try.f52 p)
theorem vc52 (e : Edit) (t : Tree) (Q : AExit → LSt U → Prop) (h : ∀ y_1, y_1 = (e) → ∀ y_2, y_2 = (t) → ∀ y_3, y_3 = ((oneT y_1 y_2)) → ((pre82 (y_1, y_2, ())) ∧ ((((!((doE false y_1 y_2).isSome)) = true → (Q .ret (⟨[(4, .ptr (.loc 4) 0), (5, .c (.bool false))], [((.loc 4), [.int .i64 0, .nils, .nils])], []⟩ : LSt U))) ∧ ((!((doE false y_1 y_2).isSome)) = false → (pre32 (y_3, ())) ∧ (Q .ret (⟨[(4, .ptr (.loc 4) 0), (5, .c (.bool true))], [((.loc 4), [.int .i64 (Tree.kind (normT y_3)), .slice (U := U) .u64 (Tree.words (normT y_3)) .unk, .slice (U := U) .tree (Tree.kids (normT y_3)) .unk])], []⟩ : LSt U))))))) :
    A52 [] (⟨[(0, .agg [.int .i64 (Edit.kind e), .int .i64 (Tree.kind (Edit.old e)), .slice (U := U) .u64 (Tree.words (Edit.old e)) .unk, .slice (U := U) .tree (Tree.kids (Edit.old e)) .unk, .int .i64 (Tree.kind (Edit.new e)), .slice (U := U) .u64 (Tree.words (Edit.new e)) .unk, .slice (U := U) .tree (Tree.kids (Edit.new e)) .unk, .slice (U := U) .wedit (Edit.words e) .unk, .slice (U := U) .kid (Edit.kids e) .unk, .int .i64 (Edit.list e), .slice (U := U) .op (Edit.ops e) .unk]), (1, .agg [.int .i64 (Tree.kind t), .slice (U := U) .u64 (Tree.words t) .unk, .slice (U := U) .tree (Tree.kids t) .unk])], [], []⟩ : LSt U) Q :=
  Eq.mpr (by kernel_rfl) (h _ (reEdit_eq _) _ (reTree_eq _) _ (reTree_eq _))
def Body52 (e : Edit) (t : Tree)  : Prop := awp cfg (know (know52)) (drawOk cfg (know (know52))) Try.f52.ntmps lv52 (cd Try.f52 []) (entry (args52.can (e, t, ())) []) (EndsQ cfg Try.f52.ntmps Try.f52.results.toList (res52 (e, t, ())) [])
theorem make52 (c32 : Contract Try.prog cfg 32 spec32) (c82 : Contract Try.prog cfg 82 spec82) (hb : ∀ (e : Edit) (t : Tree) (_ : Unit), pre52 (e, t, ()) → Body52 e t) : Contract Try.prog cfg 52 spec52 :=
  contract_flat (l := [(32, spec32), (82, spec82)]) cfgOk rfl (⟨c32, c82, trivial⟩) lv52 Try.func52 rfl rfl 2 (fun _ => rfl) (by decide) (fun ⟨e, t, _⟩ => hb e t ())
end Go.AM.Ytlahjnelghpmeaa

namespace Go.AM.Ytlahjnelghpmeaa
open Go.AM Go.Proofs
theorem c1071 : Contract Try.prog cfg 71 spec1071 := by
  refine make1071 ?_
  intro l _ hp
  simp only [pre1071] at hp
  refine vc1071 _ _ ⟨fun h => ?_, fun _ => ⟨by simp only [List.length_nil]; omega, ?_⟩⟩
  · subst h
    simp only [resL1071]
    (repeat' (first | exact trivial | exact rfl | apply And.intro))
  · simp only [resL1071]
    (repeat' (first | exact trivial | exact rfl | apply And.intro))
theorem c126 : Contract Try.prog cfg 126 spec126 := by
  refine make126 ?_
  intro l _ hp
  simp only [pre126] at hp
  refine vc126 _ _ ⟨fun h => ?_, fun _ => ⟨by simp only [List.length_nil]; omega, ?_⟩⟩
  · subst h
    simp only [resL126]
    (repeat' (first | exact trivial | exact rfl | apply And.intro))
  · simp only [resL126]
    (repeat' (first | exact trivial | exact rfl | apply And.intro))
theorem setPad_in {α : Type} (z : α) {l : List α} {i : Nat} (h : i < l.length) (x : α) : setPad z l i x = l.set i x := by
  simp only [setPad]; rw [show i + 1 - l.length = 0 by omega]; simp
theorem setPad_snoc {α : Type} (z : α) {l : List α} {i : Nat} (h : l.length ≤ i) (x : α) : setPad z (l ++ [z]) i x = setPad z l i x := by
  simp only [setPad, List.length_append, List.length_singleton, List.append_assoc]
  rw [show i + 1 - l.length = (i + 1 - (l.length + 1)) + 1 by omega, List.replicate_succ]
  rfl
theorem massKT (t : Tree) : t.words.length + massK t.kids + 1 = mass t := by obtain ⟨k, w, ks⟩ := t; simp only [mass, Tree.words_mk, Tree.kids_mk]; omega
theorem rng_at {t : Tree} (h : rng t) : isI t.kind ∧ (∀ x ∈ t.words, isW x) ∧ rngK t.kids := by obtain ⟨k, w, ks⟩ := t; exact h
theorem rng_kid {ks : List Tree} (h : rngK ks) (i : Nat) : rng (ks.getD i Tree.nil) := by
  by_cases hi : i < ks.length
  · exact rngK_mem h (mem_getD hi _)
  · rw [List.getD_eq_getElem?_getD, List.getElem?_eq_none (by omega)]
    refine ⟨by decide, by simp [Tree.nil], trivial⟩
theorem mass_kid (ks : List Tree) (i : Nat) : mass (ks.getD i Tree.nil) ≤ massK ks + 1 := by
  by_cases hi : i < ks.length
  · have := massK_mem (mem_getD hi Tree.nil); omega
  · rw [List.getD_eq_getElem?_getD, List.getElem?_eq_none (by omega)]
    simp [Tree.nil, mass, massK]
theorem kidAt_pos (t : Tree) {i : Int} (h : 0 ≤ i) : kidAt t i = t.kids.getD i.toNat Tree.nil := by unfold kidAt; rw [if_neg (by omega)]
theorem wordAt_pos (t : Tree) {i : Int} (h : 0 ≤ i) : wordAt t i = t.words.getD i.toNat 0 := by unfold wordAt; rw [if_neg (by omega)]
theorem word_in {l : List Int} (h : ∀ x ∈ l, isW x) (i : Nat) : isW (l.getD i 0) := by
  by_cases hi : i < l.length
  · exact h _ (mem_getD hi _)
  · rw [List.getD_eq_getElem?_getD, List.getElem?_eq_none (by omega)]; show 0 ≤ (0 : Int) ∧ (0 : Int) < _; omega
theorem b82 : HB82 := by
  intro N e t _ hp hN
  simp only [pre82, mu82] at hp hN
  obtain ⟨⟨p1, p2, d, p3⟩, p4, p5⟩ := hp
  have h1 := len_massE e
  have h2 := rngE_at p2
  have hd := doE_at false e t
  rw [nrD_false] at hd
  refine vc82 _ _ _ _ ?_
  rintro y1 hy1 y2 hy2 y3 hy3
  subst hy1 hy2 hy3
  (simp only [vcT, bif_tl, bif_fr, bif_tlf, bif_frf, Bool.not_eq_true', Bool.not_eq_false', decide_eq_true_eq, decide_eq_false_iff_not, beq_iff_eq, beq_eq_false_iff_ne, bne_iff_ne, ne_eq, bne_eq_false_iff_eq, Bool.or_eq_true, Bool.and_eq_true, Bool.or_eq_false_iff, Bool.and_eq_false_imp])
  refine ⟨fun hk => ?_, fun hk => ⟨fun hk1 => ⟨by simp only [pre34]; omega, ?_⟩, fun hk1 => ⟨fun hk2 => ⟨by simp only [pre113]; exact ⟨hk2, ⟨p1, p2, d, p3⟩, p4, p5⟩, by simp only [mu113]; omega, ?_⟩, fun hk2 => ⟨fun hk3 => ⟨by simp only [pre114]; exact ⟨hk3, ⟨p1, p2, d, p3⟩, p4, p5⟩, by simp only [mu114]; omega, ?_⟩, fun hk3 => ?_⟩⟩⟩⟩
  · rw [if_pos hk] at hd
    simp only [res82, oneT, if_pos hk, hd]
    (repeat' (first | exact trivial | exact rfl | apply And.intro))
  · rw [if_neg hk, if_pos hk1] at hd
    simp only [res82, oneT, if_neg hk, if_pos hk1, hd]
    cases sameT (normT y1.old) (normT y2) <;> (repeat' (first | exact trivial | exact rfl | apply And.intro))
  · rw [if_neg hk, if_neg hk1, if_pos hk2] at hd
    simp only [res82, oneT, if_neg hk, if_neg hk1, if_pos hk2, hd]
    (repeat' (first | exact trivial | exact rfl | apply And.intro))
  · rw [if_neg hk, if_neg hk1, if_neg hk2, if_pos hk3] at hd
    simp only [res82, oneT, if_neg hk, if_neg hk1, if_neg hk2, if_pos hk3, hd]
    have e2 : (if y2.kind = y1.list then (endD (doOs false y1.ops y2.kids [])).map fun b => Tree.mk y1.list [] b else none).isSome = (endD (lstD false y1 y2)).isSome := by
      unfold lstD
      split
      · cases endD (doOs false y1.ops y2.kids []) <;> rfl
      · rfl
    rw [e2]
    (repeat' (first | exact trivial | exact rfl | apply And.intro))
  · rw [if_neg hk, if_neg hk1, if_neg hk2, if_neg hk3] at hd
    simp only [res82, oneT, if_neg hk, if_neg hk1, if_neg hk2, if_neg hk3, hd]
    (repeat' (first | exact trivial | exact rfl | apply And.intro))
theorem b113 : HB113 := by
  intro N e t _ hp hN
  simp only [pre113, mu113] at hp hN
  obtain ⟨k2, ⟨p1, p2, d, p3⟩, p4, p5⟩ := hp
  have h1 := len_massE e
  have h2 := massKs_len e.kids
  have h3 := massKT t
  have h4 := massK_len t.kids
  have r2 := rngE_at p2
  have rt := rng_at p5
  have ri := rightE_all p3
  refine vc113 _ _ _ _ ?_
  (simp only [vcT, bif_tl, bif_fr, bif_tlf, bif_frf, Bool.not_eq_true', Bool.not_eq_false', decide_eq_true_eq, decide_eq_false_iff_not, beq_iff_eq, beq_eq_false_iff_ne, bne_iff_ne, ne_eq, bne_eq_false_iff_eq, Bool.or_eq_true, Bool.and_eq_true, Bool.or_eq_false_iff, Bool.and_eq_false_imp])
  have no : strD false e t = none → EndsQ cfg Try.f113.ntmps Try.f113.results.toList (res113 (e, t, ())) [] .ret (⟨[(4, .ptr (.loc 4) 0), (5, .c (.bool false))], [((.loc 4), [.int .i64 0, .nils, .nils])], []⟩ : LSt U) := by
    intro hs
    simp only [res113, hs]
    (repeat' (first | exact trivial | exact rfl | apply And.intro))
  refine ⟨fun hk => no (by unfold strD; rw [if_neg hk]), fun hk => ?_⟩
  have hk : t.kind = 1 := by simpa using hk
  refine ⟨by simp only [pre1071]; omega, by simp only [pre126]; omega, ?_⟩
  refine loop_rule (ι := Int × List Int) (fun s => head113_0 e t s.1 s.2) (fun s => 0 ≤ s.1 ∧ s.1 ≤ e.words.length ∧ wsD t.words (e.words.drop s.1.toNat) s.2 = wsD t.words e.words t.words ∧ s.2.length ≤ t.words.length + 65536) (fun s => ((e.words.length : Int) - s.1).toNat) (0, t.words) rfl ⟨by simp, by simp, by simp, by simp⟩ ?_
  rintro ⟨i, out⟩ ⟨f1, f2, f3, f4⟩
  dsimp only at f1 f2 f3 f4
  refine vc113_l0 _ _ _ _ _ _ _ ?_
  rintro y1 hy1 y2 hy2
  subst hy1
  (simp only [vcT, bif_tl, bif_fr, bif_tlf, bif_frf, Bool.not_eq_true', Bool.not_eq_false', decide_eq_true_eq, decide_eq_false_iff_not, beq_iff_eq, beq_eq_false_iff_ne, bne_iff_ne, ne_eq, bne_eq_false_iff_eq, Bool.or_eq_true, Bool.and_eq_true, Bool.or_eq_false_iff, Bool.and_eq_false_imp])
  refine ⟨fun hi => ?_, fun hi => ?_⟩
  · have hmem := mem_getD (l := e.words) (i := i.toNat) (by omega) (WEdit.mk 0 0 0 0)
    rw [dropI f1 hi (WEdit.mk 0 0 0 0), ← hy2] at f3
    rw [← hy2] at hmem
    have hw := wordsOk_all ri.words y2 hmem
    obtain ⟨g1, g2, g3, g4⟩ := r2.2.2.2.1 y2 hmem
    have hat : wordAt y1 y2.at_ = y1.words.getD y2.at_.toNat 0 := wordAt_pos y1 (by omega)
    have hwi := word_in rt.2.1 y2.at_.toNat
    rw [wsD] at f3
    rw [hat]
    unfold isW at g3 g4 hwi
    refine ⟨⟨f1, hi⟩, by simp only [pre73], by simp only [pre127]; omega, fun hne => no ?_, fun heq => ?_⟩
    · rw [if_neg hne] at f3
      unfold strD
      rw [if_pos hk, ← f3]
      rfl
    · have heq : mix 0 (y1.words.getD y2.at_.toNat 0) y2.mask = y2.old := by simpa using heq
      rw [if_pos heq] at f3
      refine loop_rule (ι := List Int) (fun s => head113_1 e y1 i s) (fun s => (∀ v, setPad 0 s y2.at_.toNat v = setPad 0 out y2.at_.toNat v) ∧ s.length ≤ y1.words.length + 65536) (fun s => (y2.at_ + 1 - s.length).toNat) out rfl ⟨fun v => rfl, f4⟩ ?_
      rintro s ⟨q1, q2⟩
      refine vc113_l1 _ _ _ _ _ _ _ _ ?_
      (simp only [Tree.eta, Edit.eta, Tree.kind_mk, Tree.words_mk, Tree.kids_mk])
      rw [← hy2, hat]
      (simp only [vcT, bif_tl, bif_fr, bif_tlf, bif_frf, Bool.not_eq_true', Bool.not_eq_false', decide_eq_true_eq, decide_eq_false_iff_not, beq_iff_eq, beq_eq_false_iff_ne, bne_iff_ne, ne_eq, bne_eq_false_iff_eq, Bool.or_eq_true, Bool.and_eq_true, Bool.or_eq_false_iff, Bool.and_eq_false_imp])
      refine ⟨fun hl => ⟨by simp; omega, s ++ [0], rfl, ⟨fun v => ?_, by simp; omega⟩, by simp; omega⟩, fun hl => ?_⟩
      · rw [setPad_snoc 0 (by omega), q1]
      · have hl : y2.at_ < s.length := by omega
        refine ⟨by simp only [pre127]; omega, by omega, by omega, by unfold InR; omega, (i + 1, s.set y2.at_.toNat (mix (y1.words.getD y2.at_.toNat 0) y2.new y2.mask)), rfl, ⟨by dsimp only; omega, by dsimp only; omega, ?_, by simp only [List.length_set]; omega⟩, by dsimp only; omega⟩
        dsimp only
        rw [← f3, ← setPad_in 0 (by omega), q1]
  · rw [List.drop_of_length_le (by omega), wsD] at f3
    refine loop_rule (ι := Int × List Tree) (fun s => head113_2 e y1 out s.1 s.2) (fun s => 0 ≤ s.1 ∧ s.1 ≤ e.kids.length ∧ doKs false y1.kids (e.kids.drop s.1.toNat) s.2 = doKs false y1.kids e.kids y1.kids ∧ s.2.length ≤ y1.kids.length + 65536) (fun s => ((e.kids.length : Int) - s.1).toNat) (0, y1.kids) rfl ⟨by simp, by simp, by simp, by simp⟩ ?_
    rintro ⟨j, ks⟩ ⟨e1, e2, e3, e4⟩
    dsimp only at e1 e2 e3 e4
    refine vc113_l2 _ _ _ _ _ _ _ _ ?_
    rintro y1 hy1 y2 hy2 y3 hy3 y4 hy4
    subst hy1
    (simp only [vcT, bif_tl, bif_fr, bif_tlf, bif_frf, Bool.not_eq_true', Bool.not_eq_false', decide_eq_true_eq, decide_eq_false_iff_not, beq_iff_eq, beq_eq_false_iff_ne, bne_iff_ne, ne_eq, bne_eq_false_iff_eq, Bool.or_eq_true, Bool.and_eq_true, Bool.or_eq_false_iff, Bool.and_eq_false_imp])
    refine ⟨fun hj => ?_, fun hj => ?_⟩
    · have hmem := mem_getD (l := e.kids) (i := j.toNat) (by omega) (KidOf.mk 0 Edit.nil)
      rw [dropI e1 hj (KidOf.mk 0 Edit.nil), ← hy2] at e3
      rw [← hy2] at hmem
      have hk2 := rightKs_all ri.kids y2 hmem
      have hm := massKs_mem hmem
      have hr := (rngKs_mem r2.2.2.2.2.2.1 hmem).2
      have hat : kidAt y1 y2.at_ = y1.kids.getD y2.at_.toNat Tree.nil := kidAt_pos y1 (by omega)
      rw [hat] at hy4
      have hm4 := mass_kid y1.kids y2.at_.toNat
      have hr4 := rng_kid rt.2.2 y2.at_.toNat
      rw [doKs, doKid_at, ← hy4, ← hy3] at e3
      rw [← hy4] at hm4 hr4
      rw [← hy3] at hm hr hk2
      refine ⟨⟨e1, hj⟩, by simp only [pre74], by simp only [pre82]; exact ⟨⟨by omega, hr, _, hk2.2⟩, by omega, hr4⟩, by simp only [mu82]; omega, fun hne => no ?_, fun heq => ?_⟩
      · have hne : doE false y3 y4 = none := by simpa using hne
        rw [hne] at e3
        unfold strD
        rw [if_pos hk, ← f3, ← e3]
        rfl
      · obtain ⟨u, hu⟩ := Option.isSome_iff_exists.1 heq
        rw [hu, Option.bind_some] at e3
        refine loop_rule (ι := List Tree) (fun s => head113_3 e y1 out j s) (fun s => (∀ v, setPad Tree.nil s y2.at_.toNat v = setPad Tree.nil ks y2.at_.toNat v) ∧ s.length ≤ y1.kids.length + 65536) (fun s => (y2.at_ + 1 - s.length).toNat) ks rfl ⟨fun v => rfl, e4⟩ ?_
        rintro s ⟨q1, q2⟩
        refine vc113_l3 _ _ _ _ _ _ _ _ _ ?_
        rintro z1 hz1 z2 hz2 z3 hz3 z4 hz4 z5 hz5
        rw [← hy2] at hz2
        subst hz1 hz2
        rw [← hy3] at hz3
        subst hz3
        rw [hat, ← hy4] at hz4
        subst hz4
        rw [oneT_some hu] at hz5
        subst hz5
        (simp only [vcT, bif_tl, bif_fr, bif_tlf, bif_frf, Bool.not_eq_true', Bool.not_eq_false', decide_eq_true_eq, decide_eq_false_iff_not, beq_iff_eq, beq_eq_false_iff_ne, bne_iff_ne, ne_eq, bne_eq_false_iff_eq, Bool.or_eq_true, Bool.and_eq_true, Bool.or_eq_false_iff, Bool.and_eq_false_imp])
        refine ⟨fun hl => ⟨by simp; omega, s ++ [Tree.nil], rfl, ⟨fun v => ?_, by simp; omega⟩, by simp; omega⟩, fun hl => ?_⟩
        · rw [setPad_snoc Tree.nil (by omega), q1]
        · have hl : z2.at_ < s.length := by omega
          refine ⟨by omega, by omega, by unfold InR; omega, (j + 1, s.set z2.at_.toNat z5), rfl, ⟨by dsimp only; omega, by dsimp only; omega, ?_, by simp only [List.length_set]; omega⟩, by dsimp only; omega⟩
          dsimp only
          rw [← e3, ← setPad_in Tree.nil (by omega), q1]
    · rw [List.drop_of_length_le (by omega), doKs] at e3
      have hs : strD false e y1 = some (.mk 1 out ks) := by
        unfold strD
        rw [if_pos hk, ← f3, ← e3]
        rfl
      simp only [res113, hs]
      (repeat' (first | exact trivial | exact rfl | apply And.intro))
theorem doOs_cons (r : Bool) (o : Op) (s : List Op) (rest out : List Tree) : doOs r (o :: s) rest out = (doOp r o rest out).bind fun x => doOs r s x.2 x.1 := by rw [doOs]
theorem rngK_drop {ks : List Tree} (h : rngK ks) (n : Nat) : rngK (ks.drop n) := by
  induction n generalizing ks with
  | zero => exact h
  | succ n ih => cases ks with
    | nil => exact h
    | cons a r => exact ih h.2
theorem b114 : HB114 := by
  intro N e t _ hp hN
  simp only [pre114, mu114] at hp hN
  obtain ⟨k3, ⟨p1, p2, d, p3⟩, p4, p5⟩ := hp
  have h1 := len_massE e
  have h2 := massOs_len e.ops
  have h3 := massKT t
  have h4 := massK_len t.kids
  have r2 := rngE_at p2
  have rt := rng_at p5
  have ri := rightE_all p3
  refine vc114 _ _ _ _ ?_
  (simp only [vcT, bif_tl, bif_fr, bif_tlf, bif_frf, Bool.not_eq_true', Bool.not_eq_false', decide_eq_true_eq, decide_eq_false_iff_not, beq_iff_eq, beq_eq_false_iff_ne, bne_iff_ne, ne_eq, bne_eq_false_iff_eq, Bool.or_eq_true, Bool.and_eq_true, Bool.or_eq_false_iff, Bool.and_eq_false_imp])
  have no : lstD false e t = none → EndsQ cfg Try.f114.ntmps Try.f114.results.toList (res114 (e, t, ())) [] .ret (⟨[(4, .ptr (.loc 4) 0), (5, .c (.bool false))], [((.loc 4), [.int .i64 0, .nils, .nils])], []⟩ : LSt U) := by
    intro hs
    simp only [res114, hs]
    (repeat' (first | exact trivial | exact rfl | apply And.intro))
  refine ⟨fun hk => no (by unfold lstD; rw [if_neg hk]), fun hk => ?_⟩
  have hk : t.kind = e.list := by simpa using hk
  have hl0 : lstD false e t = doOs false e.ops t.kids [] := by unfold lstD; rw [if_pos hk]
  refine loop_rule (ι := Int × List Tree × List Tree) (fun s => head114_0 e t s.1 s.2.2 s.2.1)
    (fun s => 0 ≤ s.1 ∧ s.1 ≤ e.ops.length ∧ doOs false (e.ops.drop s.1.toNat) s.2.2 s.2.1 = lstD false e t ∧ s.2.1.length + s.2.2.length + massOs (e.ops.drop s.1.toNat) ≤ t.kids.length + massOs e.ops ∧ massK s.2.2 ≤ massK t.kids ∧ rngK s.2.2)
    (fun s => ((e.ops.length : Int) - s.1).toNat) (0, [], t.kids) rfl ⟨by simp, by simp, by simp [hl0], by simp, by simp, rt.2.2⟩ ?_
  rintro ⟨i, out, rest⟩ ⟨f1, f2, f3, f4, f5, f6⟩
  dsimp only at f1 f2 f3 f4 f5 f6
  refine vc114_l0 _ _ _ _ _ _ _ _ ?_
  rintro y1 hy1
  (simp only [vcT, bif_tl, bif_fr, bif_tlf, bif_frf, Bool.not_eq_true', Bool.not_eq_false', decide_eq_true_eq, decide_eq_false_iff_not, beq_iff_eq, beq_eq_false_iff_ne, bne_iff_ne, ne_eq, bne_eq_false_iff_eq, Bool.or_eq_true, Bool.and_eq_true, Bool.or_eq_false_iff, Bool.and_eq_false_imp])
  refine ⟨fun hi => ?_, fun hi => ?_⟩
  · have hmem := mem_getD (l := e.ops) (i := i.toNat) (by omega) Op.nil
    rw [dropI f1 hi Op.nil, ← hy1] at f3 f4
    rw [← hy1] at hmem
    have hr := Go.AM.rightOs_mem ri.ops y1 hmem
    have hm := massOs_mem hmem
    have hme := massOp_e y1
    have hro := rngOp_e (rngOs_mem r2.2.2.2.2.2.2 hmem)
    have hml := massK_len y1.l
    simp only [massOs] at f4
    rw [doOs_cons, doOp_at] at f3
    have go : ∀ (x : List Tree) (m : List Tree) (v : V U) N0 Q', doOs false (e.ops.drop (i + 1).toNat) x m = lstD false e t → m.length + x.length + massOs (e.ops.drop (i + 1).toNat) ≤ t.kids.length + massOs e.ops → massK x ≤ massK t.kids → rngK x →
        (∀ s2, s2 = head114_0 e t (i + 1) x m → N0 s2) → A114 N [1, 1, 1, 1, 0, 1, 0, 0, 1, 1, 1] (head114_1 e t i x m v) (AExit.then N0 (AExit.inBlock 0 (S114 N [1, 1, 1, 1, 1] Q'))) := by
      intro x m v N0 Q' a1 a2 a3 a4 a5
      exact vc114_c1 _ _ _ _ _ _ _ _ _ ⟨by unfold InR; omega, a5 _ rfl⟩
    have fin : ∀ (x m : List Tree), doOs false (e.ops.drop (i + 1).toNat) x m = lstD false e t → m.length + x.length + massOs (e.ops.drop (i + 1).toNat) ≤ t.kids.length + massOs e.ops → massK x ≤ massK t.kids → rngK x → ∀ s2, s2 = head114_0 e t (i + 1) x m →
        ∃ j : Int × List Tree × List Tree, s2 = head114_0 e t j.1 j.2.2 j.2.1 ∧ (0 ≤ j.1 ∧ j.1 ≤ e.ops.length ∧ doOs false (e.ops.drop j.1.toNat) j.2.2 j.2.1 = lstD false e t ∧ j.2.1.length + j.2.2.length + massOs (e.ops.drop j.1.toNat) ≤ t.kids.length + massOs e.ops ∧ massK j.2.2 ≤ massK t.kids ∧ rngK j.2.2) ∧ ((e.ops.length : Int) - j.1).toNat < ((e.ops.length : Int) - i).toNat := by
      rintro x m a1 a2 a3 a4 _ rfl
      exact ⟨(i + 1, m, x), rfl, ⟨by dsimp only; omega, by dsimp only; omega, a1, a2, a3, a4⟩, by dsimp only; omega⟩
    have r1 := rightOp_all hr
    have ht : ∀ n : Nat, (rest.take n).length ≤ rest.length ∧ (rest.take n).length + (rest.drop n).length = rest.length := by
      intro n
      simp only [List.length_take, List.length_drop]; omega
    refine ⟨⟨f1, hi⟩, fun hk2 => ⟨by omega, ?_⟩, fun hk2 => ⟨fun hk1 => ?_, fun hk1 => ⟨fun hk3 => ?_, fun hk3 => ?_⟩⟩⟩
    · rw [if_neg (by omega), if_neg (by omega), if_pos hk2, Option.bind_some] at f3
      exact go _ _ _ _ _ f3 (by simp only [List.length_append]; omega) f5 f6 (fin _ _ f3 (by simp only [List.length_append]; omega) f5 f6)
    · refine vc114_c2 _ _ _ _ _ _ _ _ _ _ ?_
      rintro z1 hz1 z2 hz2 z3 hz3 z4 hz4 z5 hz5 z6 hz6
      rw [← hy1] at hz1
      subst hz1
      rw [if_neg (by omega), if_pos hk1] at f3
      (simp only [vcT, bif_tl, bif_fr, bif_tlf, bif_frf, Bool.not_eq_true', Bool.not_eq_false', decide_eq_true_eq, decide_eq_false_iff_not, beq_iff_eq, beq_eq_false_iff_ne, bne_iff_ne, ne_eq, bne_eq_false_iff_eq, Bool.or_eq_true, Bool.and_eq_true, Bool.or_eq_false_iff, Bool.and_eq_false_imp])
      rw [Int.toNat_natCast] at hz5
      rw [Int.toNat_natCast]
      refine ⟨fun hs => no ?_, fun hs => ⟨by omega, by omega, fun h => by omega, fun _ => ⟨fun _ => ⟨?_, fun hq => no ?_, fun hq => ?_⟩, fun h => absurd hk1 h⟩⟩⟩
      · have : goneD z1.l rest = false := by unfold goneD; rw [decide_eq_false (by omega)]; rfl
        rw [this, if_neg (by simp)] at f3
        exact f3.symm
      · have := massK_take z1.l.length rest
        simp only [pre96]; omega
      · have : goneD z1.l rest = false := by unfold goneD; rw [← hz5, hq]; simp
        rw [this, if_neg (by simp)] at f3
        exact f3.symm
      · have : goneD z1.l rest = true := by unfold goneD; rw [← hz5, hq, decide_eq_true (by omega)]; rfl
        rw [this, if_pos rfl, Option.bind_some] at f3
        have hd := massK_drop z1.l.length rest
        have ht1 := ht z1.l.length
        exact go _ _ _ _ _ f3 (by omega) (by omega) (rngK_drop f6 _) (fin _ _ f3 (by omega) (by omega) (rngK_drop f6 _))
    · refine vc114_c2 _ _ _ _ _ _ _ _ _ _ ?_
      rintro z1 hz1 z2 hz2 z3 hz3 z4 hz4 z5 hz5 z6 hz6
      rw [← hy1] at hz1
      subst hz1
      rw [if_neg (by omega), if_neg hk1, if_neg hk2] at f3
      (simp only [vcT, bif_tl, bif_fr, bif_tlf, bif_frf, Bool.not_eq_true', Bool.not_eq_false', decide_eq_true_eq, decide_eq_false_iff_not, beq_iff_eq, beq_eq_false_iff_ne, bne_iff_ne, ne_eq, bne_eq_false_iff_eq, Bool.or_eq_true, Bool.and_eq_true, Bool.or_eq_false_iff, Bool.and_eq_false_imp])
      rw [show Int.toNat 1 = 1 from rfl]
      refine ⟨fun hs => no ?_, fun hs => ⟨by omega, by omega, fun h => by omega, fun _ => ⟨fun h => absurd h hk1, fun _ => ?_⟩⟩⟩
      · rw [if_pos (by omega)] at f3
        exact f3.symm
      · have hz : z3 = rest.getD 0 Tree.nil := by
          rw [hz3, hz2]
          cases rest with
          | nil => rfl
          | cons a r => rfl
        rw [if_neg (by omega), ← hz, ← hz4] at f3
        have hm3 := mass_kid rest 0
        have hr3 := rng_kid f6 0
        rw [← hz] at hm3 hr3
        have hre := right_desc hr hk3
        rw [← hz4] at hre hme hro
        refine ⟨?_, by simp only [pre82]; exact ⟨⟨by omega, hro.2.2.2, _, hre⟩, by omega, hr3⟩, by simp only [mu82]; omega, fun hne => no ?_, fun heq => ?_⟩
        · simp only [List.length_take]; omega
        · have hne : doE false z4 z3 = none := by simpa using hne
          rw [hne] at f3
          exact f3.symm
        · obtain ⟨u, hu⟩ := Option.isSome_iff_exists.1 heq
          rw [oneT_some hu] at hz6
          subst hz6
          rw [hu, Option.map_some, Option.bind_some] at f3
          have hd := massK_drop 1 rest
          have ht1 := ht 1
          have ht2 : (rest.take 1).length = 1 := by simp only [List.length_take]; omega
          refine ⟨by simp only [List.length_singleton]; omega, ?_⟩
          exact go _ _ _ _ _ f3 (by simp only [List.length_append, List.length_singleton]; omega) (by omega) (rngK_drop f6 _) (fin _ _ f3 (by simp only [List.length_append, List.length_singleton]; omega) (by omega) (rngK_drop f6 _))
    · have hk0 : y1.kind = 0 := by cases r1 <;> first | rfl | (exfalso; simp at hk1 hk2 hk3)
      refine vc114_c2 _ _ _ _ _ _ _ _ _ _ ?_
      rintro z1 hz1 z2 hz2 z3 hz3 z4 hz4 z5 hz5 z6 hz6
      rw [← hy1] at hz1
      subst hz1
      rw [if_pos hk0] at f3
      have hn : 1 ≤ z1.n ∧ z1.n ≤ 1048576 := by cases r1 <;> first | (constructor <;> assumption) | (exfalso; simp at hk1 hk2 hk3 hk0)
      (simp only [vcT, bif_tl, bif_fr, bif_tlf, bif_frf, Bool.not_eq_true', Bool.not_eq_false', decide_eq_true_eq, decide_eq_false_iff_not, beq_iff_eq, beq_eq_false_iff_ne, bne_iff_ne, ne_eq, bne_eq_false_iff_eq, Bool.or_eq_true, Bool.and_eq_true, Bool.or_eq_false_iff, Bool.and_eq_false_imp])
      refine ⟨fun hs => no ?_, fun hs => ⟨by omega, by omega, fun _ => ⟨?_, ?_⟩, fun h => absurd hk0 h⟩⟩
      · rw [if_neg (by omega)] at f3
        exact f3.symm
      · have := (ht z1.n.toNat).1
        omega
      · rw [if_pos (by omega), Option.bind_some] at f3
        have hd := massK_drop z1.n.toNat rest
        have ht1 := ht z1.n.toNat
        exact go _ _ _ _ _ f3 (by simp only [List.length_append]; omega) (by omega) (rngK_drop f6 _) (fin _ _ f3 (by simp only [List.length_append]; omega) (by omega) (rngK_drop f6 _))
  · rw [List.drop_of_length_le (by omega), doOs] at f3
    simp only [res114, ← f3, lstT, endD, Option.bind_some, hk]
    by_cases hr : rest.length = 0
    · rw [if_pos hr, hr]
      (repeat' (first | exact trivial | exact rfl | apply And.intro))
    · rw [if_neg hr, show ((rest.length : Int) == 0) = false by rw [beq_eq_false_iff_ne]; omega]
      (repeat' (first | exact trivial | exact rfl | apply And.intro))
theorem c82_ : Contract Try.prog cfg 82 spec82 ∧ Contract Try.prog cfg 113 spec113 ∧ Contract Try.prog cfg 114 spec114 := make82_ c34 c73 c74 c96 c126 c127 c1071 b82 b113 b114
theorem c82 : Contract Try.prog cfg 82 spec82 := c82_.1
end Go.AM.Ytlahjnelghpmeaa

namespace Go.AM.Ytlahjnelghpmeaa
open Go.AM Go.Proofs
theorem kind_norm (t : Tree) : (normT t).kind = t.kind := by
  obtain ⟨k, w, ks⟩ := t
  simp only [normT]
  by_cases h0 : k = 0
  · rw [if_pos h0, h0]; rfl
  · rw [if_neg h0]
    by_cases h1 : k = 1
    · rw [if_pos h1, h1]; rfl
    · rw [if_neg h1]; rfl
theorem trim_pre : ∀ (l : List Int), ∃ r, l = trim l ++ r
  | [] => ⟨[], rfl⟩
  | x :: r => by
    obtain ⟨s, hs⟩ := trim_pre r
    simp only [trim]
    split
    · rename_i e
      split
      · exact ⟨x :: r, rfl⟩
      · exact ⟨r, rfl⟩
    · rename_i y t e
      rw [e] at hs
      exact ⟨s, by rw [hs]; rfl⟩
theorem trimK_pre : ∀ (l : List Tree), ∃ r, l = trimK l ++ r
  | [] => ⟨[], rfl⟩
  | x :: r => by
    obtain ⟨s, hs⟩ := trimK_pre r
    simp only [trimK]
    split
    · rename_i e
      split
      · exact ⟨x :: r, rfl⟩
      · exact ⟨r, rfl⟩
    · rename_i y t e
      rw [e] at hs
      exact ⟨s, by rw [hs]; rfl⟩
theorem rightK_pre {list d : Int} : ∀ (a b : List Tree), rightK list (a ++ b) d = true → rightK list a d = true
  | [], _, _ => rfl
  | t :: r, b, h => by
    simp only [List.cons_append, rightK, Bool.and_eq_true] at h ⊢
    exact ⟨h.1, rightK_pre r b h.2⟩
theorem normK_length : ∀ (l : List Tree), (normK l).length = l.length
  | [] => rfl
  | t :: r => by simp only [normK, List.length_cons, normK_length r]
theorem kidB_norm {list : Int} {t : Tree} (h : kidB list t = true) : kidB list (normT t) = true := by
  unfold kidB at h ⊢
  rw [kind_norm]
  split at h
  · rename_i hl
    rw [if_pos hl]
    simp only [Bool.and_eq_true, decide_eq_true_eq] at h ⊢
    obtain ⟨⟨h1, h2, h3⟩, h4⟩ := h
    obtain ⟨k, w, ks⟩ := t
    simp only [Tree.kind_mk, Tree.kids_mk, Tree.words_mk] at h1 h2 h3 h4
    have : ks = [] := List.length_eq_zero_iff.1 h2
    subst this
    subst h1
    exact ⟨⟨rfl, rfl, h3⟩, h4⟩
  · rename_i hl
    rw [if_neg hl]
    exact h
mutual
theorem rightT_norm : ∀ (t : Tree) (d : Int), rightT t d = true → rightT (normT t) d = true
  | .mk k w ks, d, h => by
    have ih := fun (list : Int) (h : rightK list ks (d - 1) = true) => rightK_norm ks list (d - 1) h
    simp only [rightT] at h
    simp only [normT]
    by_cases h0 : k = 0
    · rw [if_pos h0]; simp [Tree.nil, rightT]
    · rw [if_neg h0] at h ⊢
      by_cases h10 : k = 10
      · subst h10
        rw [if_pos rfl] at h
        rw [if_neg (by decide)]
        simp only [decide_eq_true_eq] at h
        simp only [rightT]
        rw [if_neg (by decide), if_pos trivial, normK_length]
        simpa using h
      · rw [if_neg h10] at h
        by_cases hd : d = 0
        · rw [if_pos hd] at h; cases h
        · rw [if_neg hd] at h
          by_cases h1 : k = 1
          · subst h1
            rw [if_pos rfl] at h
            rw [if_pos rfl]
            simp only [Bool.and_eq_true, decide_eq_true_eq] at h
            simp only [rightT]
            rw [if_neg (by decide), if_neg (by decide), if_neg hd, if_pos trivial]
            simp only [Bool.and_eq_true, decide_eq_true_eq]
            obtain ⟨r1, e1⟩ := trim_pre w
            obtain ⟨r2, e2⟩ := trimK_pre (normK ks)
            have l1 := congrArg List.length e1
            have l2 := congrArg List.length e2
            rw [normK_length] at l2
            simp only [List.length_append] at l1 l2
            refine ⟨⟨by omega, by omega⟩, ?_⟩
            have := ih 1 h.2
            rw [e2] at this
            exact rightK_pre _ _ this
          · rw [if_neg h1] at h ⊢
            simp only [Bool.and_eq_true, decide_eq_true_eq] at h
            simp only [rightT]
            rw [if_neg h0, if_neg h10, if_neg hd, if_neg h1, normK_length]
            simp only [Bool.and_eq_true, decide_eq_true_eq]
            exact ⟨h.1, ih k h.2⟩
theorem rightK_norm : ∀ (l : List Tree) (list d : Int), rightK list l d = true → rightK list (normK l) d = true
  | [], _, _, _ => rfl
  | t :: r, list, d, h => by
    simp only [rightK, Bool.and_eq_true] at h
    have h1 := rightT_norm t d h.1.2
    have h2 := rightK_norm r list d h.2
    simp only [normK, rightK, Bool.and_eq_true]
    exact ⟨⟨kidB_norm h.1.1, h1⟩, h2⟩
end
end Go.AM.Ytlahjnelghpmeaa

namespace Go.AM.Ytlahjnelghpmeaa
open Go.AM Go.Proofs
theorem massK_app : ∀ (a b : List Tree), massK (a ++ b) = massK a + massK b
  | [], b => by simp [massK]
  | t :: r, b => by simp only [List.cons_append, massK, massK_app r b]; omega
theorem massOs_app : ∀ (a b : List Op), massOs (a ++ b) = massOs a + massOs b
  | [], b => by simp [massOs]
  | t :: r, b => by simp only [List.cons_append, massOs, massOs_app r b]; omega
theorem massK_norms : ∀ (l : List Tree), massK (normsT l) ≤ massK l
  | [] => by simp [normsT, massK]
  | t :: r => by
    have h := massK_norms r
    have h2 := normT_mass t
    simp only [normsT] at h
    simp only [normsT, List.map_cons, massK]
    omega
theorem mass_nilE : massE Edit.nil = 3 := by simp [Edit.nil, Tree.nil, massE, mass, massK, massKs, massOs]
theorem mass_nilT : mass Tree.nil = 1 := by simp [Tree.nil, mass, massK]
theorem mass_pos' (t : Tree) : 1 ≤ mass t := by cases t; simp only [mass]; omega
theorem massE_three : ∀ (e : Edit), 3 ≤ massE e
  | .mk k o n w ks l os => by
    have h1 := mass_pos' o
    have h2 := mass_pos' n
    simp only [massE]; omega
def potW (w : Wst) : Nat := massOs w.out + w.out.length + massK w.gone + massK w.brought + (if w.gone.length = 0 then 0 else 4) + (if w.brought.length = 0 then 0 else 4)
theorem massOs_one (o : Op) : massOs [o] = massOp o := by simp [massOs]
theorem massOp_mk (k n : Int) (l : List Tree) (e : Edit) : massOp (OpOf.mk k n l e) = massK l + massE e := rfl
theorem pot_flush (w : Wst) : massOs (flushW w).out + (flushW w).out.length = potW w := by
  simp only [flushW, flushO, potW]
  rw [massOs_app, massOs_app, List.length_append, List.length_append]
  by_cases hg : w.gone.length = 0
  · have e : w.gone = [] := List.length_eq_zero_iff.1 hg
    rw [if_pos hg, if_pos hg, e]
    by_cases hb : w.brought.length = 0
    · have e2 : w.brought = [] := List.length_eq_zero_iff.1 hb
      rw [if_pos hb, if_pos hb, e2]; simp [massOs, massK]
    · rw [if_neg hb, if_neg hb, massOs_one, massOp_mk, mass_nilE]; simp [massOs, massK]; omega
  · rw [if_neg hg, if_neg hg, massOs_one, massOp_mk, mass_nilE]
    by_cases hb : w.brought.length = 0
    · have e2 : w.brought = [] := List.length_eq_zero_iff.1 hb
      rw [if_pos hb, if_pos hb, e2]; simp [massOs, massK]; omega
    · rw [if_neg hb, if_neg hb, massOs_one, massOp_mk, mass_nilE]; simp; omega
theorem pot_keep (w : Wst) (n : Int) : potW (keepW w n) ≤ potW w + 4 := by
  have h := pot_flush w
  have e : potW (keepW w n) = massOs (keepO (flushW w).out n) + (keepO (flushW w).out n).length := by simp [potW, keepW, massK]
  rw [e]
  rcases keepO_cases (flushW w).out n with e | ⟨a, o, e1, _, e3⟩
  · rw [e, massOs_app, List.length_append, massOs_one, massOp_mk, mass_nilE]; simp [massK]; omega
  · rw [e3, massOs_app, List.length_append, massOs_one]
    rw [e1, massOs_app, List.length_append, massOs_one] at h
    obtain ⟨k, m, l, e⟩ := o
    simp only [massOp_mk] at h ⊢
    simp at h ⊢
    omega
theorem pot_op {list : Int} {w : Wst} {o : Op} (hi : massE (nrmE o.e) ≤ massE o.e) : potW (nrmOp list o w) ≤ potW w + massOp o + 1 := by
  have h3 := massE_three o.e
  have hm : massOp o = massK o.l + massE o.e := by cases o; rfl
  have hn := massK_norms o.l
  have hl : (normsT o.l).length = o.l.length := by simp [normsT]
  rw [nrmOp_at]
  split
  · have := pot_keep w o.n; omega
  · split
    · simp only [potW, massK_app, List.length_append, hl]
      split <;> split <;> split <;> omega
    · split
      · simp only [potW, massK_app, List.length_append, hl]
        split <;> split <;> split <;> omega
      · split
        · split
          · have := pot_keep w 1; omega
          · have := pot_flush w
            have e : potW ⟨(flushW w).out ++ [⟨3, 0, [], nrmE o.e⟩], [], []⟩ = massOs ((flushW w).out ++ [(⟨3, 0, [], nrmE o.e⟩ : Op)]) + ((flushW w).out ++ [(⟨3, 0, [], nrmE o.e⟩ : Op)]).length := by simp [potW, massK]
            rw [e, massOs_app, List.length_append, massOs_one, massOp_mk]
            simp [massK]; omega
        · omega
mutual
theorem massE_nrm : ∀ (e : Edit), massE (nrmE e) ≤ massE e
  | .mk k o n w ks l os => by
    have h1 := massKs_nrm ks
    have h2 := pot_nrm l os W0
    have h3 := pot_flush (nrmOs l os W0)
    have e0 : potW W0 = 0 := rfl
    have po := mass_pos' o
    have pn := mass_pos' n
    have mo := normT_mass o
    have mn := normT_mass n
    rw [nrmE]
    split
    · simp only [massE, massKs, massOs, List.length_nil]; omega
    · split
      · simp only [massE, massKs, massOs, List.length_nil, mass_nilT]; omega
      · split
        · simp only [massE, massKs, List.length_nil, mass_nilT]
          show 1 + 1 + 1 + 0 + (flushW (nrmOs l os W0)).out.length + 0 + massOs (flushW (nrmOs l os W0)).out ≤ _
          omega
        · simp only [massE, massKs, massOs, List.length_nil, mass_nilT]; omega
theorem massKs_nrm : ∀ (ks : List (KidOf Edit)), massKs (nrmKs ks) ≤ massKs ks
  | [] => Nat.le_refl _
  | k :: r => by
    have h1 := massKid_nrm k
    have h2 := massKs_nrm r
    simp only [nrmKs, massKs]; omega
theorem massKid_nrm : ∀ (k : KidOf Edit), massKid (nrmKid k) ≤ massKid k
  | ⟨a, e⟩ => by
    have h := massE_nrm e
    simp only [nrmKid, massKid]; exact h
theorem pot_nrm (list : Int) : ∀ (os : List (OpOf Edit)) (w : Wst), potW (nrmOs list os w) ≤ potW w + massOs os + os.length
  | [], w => by simp [nrmOs, massOs]
  | o :: r, w => by
    have h1 := pot_nrmOp list o w
    have h2 := pot_nrm list r (nrmOp list o w)
    simp only [nrmOs, massOs, List.length_cons]; omega
theorem pot_nrmOp (list : Int) : ∀ (o : OpOf Edit) (w : Wst), potW (nrmOp list o w) ≤ potW w + massOp o + 1
  | ⟨k, n, l, e⟩, _ => pot_op (o := ⟨k, n, l, e⟩) (massE_nrm e)
end
end Go.AM.Ytlahjnelghpmeaa

namespace Go.AM.Ytlahjnelghpmeaa
open Go.AM Go.Proofs
theorem nrmE_kind (e : Edit) : (nrmE e).kind = e.kind := by
  rw [nrmE_at]
  split
  · rfl
  · split
    · rfl
    · split <;> rfl
theorem nrmE_old (e : Edit) (h : e.kind = 1) : (nrmE e).old = normT e.old ∧ (nrmE e).new = normT e.new := by
  rw [nrmE_at, if_pos h]
  exact ⟨rfl, rfl⟩
theorem rightT_one {list : Int} {t : Tree} (h : rightT (.mk list [] [t]) 64 = true) : rightT (.mk list [] [normT t]) 64 = true := by
  have key := fun (k d : Int) (h : rightK k [t] d = true) => rightK_norm [t] k d h
  simp only [normK] at key
  simp only [rightT] at h ⊢
  split at h
  · simp at h
  · rename_i h0
    rw [if_neg h0]
    split at h
    · simp at h
    · rename_i h1
      rw [if_neg h1]
      rw [if_neg (by decide)] at h ⊢
      split at h
      · rename_i h2
        rw [if_pos h2]
        simp only [Bool.and_eq_true] at h ⊢
        exact ⟨h.1, key _ _ h.2⟩
      · rename_i h2
        rw [if_neg h2]
        simp only [Bool.and_eq_true] at h ⊢
        exact ⟨h.1, key _ _ h.2⟩
theorem treesOk_norms {list : Int} : ∀ {l : List Tree}, treesOk list l = true → treesOk list (normsT l) = true
  | [], _ => rfl
  | t :: r, h => by
    simp only [treesOk, Bool.and_eq_true] at h
    have h2 := treesOk_norms h.2
    simp only [normsT] at h2
    simp only [normsT, List.map_cons, treesOk, Bool.and_eq_true]
    exact ⟨rightT_one h.1, h2⟩
theorem treesOk_app {list : Int} : ∀ {a b : List Tree}, treesOk list a = true → treesOk list b = true → treesOk list (a ++ b) = true
  | [], _, _, h => h
  | t :: r, b, h, h2 => by
    simp only [treesOk, Bool.and_eq_true] at h
    simp only [List.cons_append, treesOk, Bool.and_eq_true]
    exact ⟨h.1, treesOk_app h.2 h2⟩
def rOp (list : Int) (d : Int) (o : Op) : Prop := (o.kind = 0 → 1 ≤ o.n ∧ o.l.length = 0 ∧ sameE o.e = true) ∧ (o.kind ≠ 0 → rightOp list o d = true)
theorem rOp_of {list d : Int} {o : Op} (h : rightOp list o d = true) : rOp list d o := by
  refine ⟨fun hk => ?_, fun _ => h⟩
  obtain ⟨k, n, l, e⟩ := o
  simp only at hk
  subst hk
  simp only [rightOp, if_true, Bool.and_eq_true, decide_eq_true_eq] at h
  exact ⟨h.1.1, h.1.2.2, h.2⟩
theorem rOp_to {list d : Int} {o : Op} (h : rOp list d o) (hn : o.kind = 0 → o.n ≤ 1048576) : rightOp list o d = true := by
  by_cases hk : o.kind = 0
  · have h1 := h.1 hk
    have h2 := hn hk
    obtain ⟨k, n, l, e⟩ := o
    simp only at hk h1 h2
    subst hk
    simp only [rightOp, if_true, Bool.and_eq_true, decide_eq_true_eq]
    exact ⟨⟨h1.1, h2, h1.2.1⟩, h1.2.2⟩
  · exact h.2 hk
theorem rightOs_all {list : Int} : ∀ {os : List Op} {d : Int}, rightOs list os d = true ↔ ∀ o ∈ os, rightOp list o d = true
  | [], d => by simp [rightOs]
  | o :: r, d => by
    simp only [rightOs, Bool.and_eq_true, List.mem_cons, forall_eq_or_imp]
    rw [rightOs_all (os := r)]
theorem sameE_none : sameE Edit.nil = true := rfl
structure OkW (list d : Int) (w : Wst) : Prop where
  out : ∀ o ∈ w.out, rOp list d o
  gone : treesOk list w.gone = true
  brought : treesOk list w.brought = true
theorem okW_flush {list d : Int} {w : Wst} (h : OkW list d w) : OkW list d (flushW w) := by
  refine ⟨?_, rfl, rfl⟩
  simp only [flushW, flushO]
  intro o ho
  rcases List.mem_append.1 ho with ho | ho
  · exact h.out o ho
  rcases List.mem_append.1 ho with ho | ho
  · split at ho
    · cases ho
    · rename_i hl
      simp only [List.mem_singleton] at ho
      subst ho
      refine ⟨fun hk => (by cases hk), fun _ => ?_⟩
      simp only [rightOp]
      rw [if_neg (by decide), if_neg (by decide), if_pos (by decide), h.gone, sameE_none]
      simp only [Bool.and_true, Bool.true_and, decide_eq_true_eq]
      omega
  · split at ho
    · cases ho
    · rename_i hl
      simp only [List.mem_singleton] at ho
      subst ho
      refine ⟨fun hk => (by cases hk), fun _ => ?_⟩
      simp only [rightOp]
      rw [if_neg (by decide), if_neg (by decide), if_pos (by decide), h.brought, sameE_none]
      simp only [Bool.and_true, Bool.true_and, decide_eq_true_eq]
      omega
theorem okW_keep {list d : Int} {w : Wst} {n : Int} (h : OkW list d w) (hn : 1 ≤ n) : OkW list d (keepW w n) := by
  have hf := okW_flush h
  refine ⟨?_, rfl, rfl⟩
  simp only [keepW]
  intro o ho
  rcases keepO_cases (flushW w).out n with e | ⟨a, q, e1, e2, e3⟩
  · rw [e] at ho
    rcases List.mem_append.1 ho with ho | ho
    · exact hf.out o ho
    · simp only [List.mem_singleton] at ho
      subst ho
      exact ⟨fun _ => ⟨hn, rfl, sameE_none⟩, fun hk => absurd rfl hk⟩
  · rw [e3] at ho
    rcases List.mem_append.1 ho with ho | ho
    · exact hf.out o (by rw [e1]; exact List.mem_append.2 (Or.inl ho))
    · simp only [List.mem_singleton] at ho
      subst ho
      have hq := (hf.out q (by rw [e1]; simp)).1 e2
      exact ⟨fun _ => ⟨by simp only; omega, hq.2⟩, fun hk => absurd e2 hk⟩
theorem okW_op {list d : Int} {w : Wst} {o : Op} (h : OkW list d w) (hr : rightOp list o d = true) (hi : rightE o.e d = true → rightE (nrmE o.e) d = true) : OkW list d (nrmOp list o w) := by
  obtain ⟨k, n, l, e⟩ := o
  have hr0 := hr
  rw [rightOp] at hr
  rw [nrmOp_at]
  simp only at hi ⊢
  split at hr
  · rename_i hk
    rw [if_pos hk]
    simp only [Bool.and_eq_true, decide_eq_true_eq] at hr
    exact okW_keep h hr.1.1
  · rename_i hk
    rw [if_neg hk]
    split at hr
    · cases hr
    · rename_i hn
      split at hr
      · rename_i h3
        simp only [Bool.and_eq_true, decide_eq_true_eq] at hr
        by_cases k1 : k = 1
        · rw [if_pos k1]
          exact ⟨h.out, treesOk_app h.gone (treesOk_norms hr.1.1), h.brought⟩
        · rw [if_neg k1, if_pos (by omega)]
          exact ⟨h.out, h.gone, treesOk_app h.brought (treesOk_norms hr.1.1)⟩
      · rename_i h3
        rw [if_neg (by omega), if_neg (by omega), if_pos (by omega)]
        split
        · exact okW_keep h (by decide)
        · have hf := okW_flush h
          refine ⟨?_, rfl, rfl⟩
          intro o ho
          rcases List.mem_append.1 ho with ho | ho
          · exact hf.out o ho
          · simp only [List.mem_singleton] at ho
            subst ho
            refine ⟨fun hk => (by cases hk), fun _ => ?_⟩
            simp only [Bool.and_eq_true, decide_eq_true_eq] at hr
            simp only [rightOp]
            rw [if_neg (by decide), if_neg (by decide), if_neg (by decide), nrmE_kind, hi hr.1.2]
            simp only [Bool.and_true, Bool.and_eq_true, decide_eq_true_eq]
            refine ⟨⟨rfl, hr.1.1.2⟩, ?_⟩
            rcases hr.2 with h | h | h
            · exact Or.inl h
            · exact Or.inr (Or.inl h)
            · rw [(nrmE_old e h.1).1, (nrmE_old e h.1).2, kind_norm, kind_norm]
              exact Or.inr (Or.inr h)
def sumA : List Op → Int
  | [] => 0
  | o :: r => (if o.kind = 2 then 0 else opLen o) + sumA r
def sumB : List Op → Int
  | [] => 0
  | o :: r => (if o.kind = 1 then 0 else opLen o) + sumB r
theorem sumA_app : ∀ (a b : List Op), sumA (a ++ b) = sumA a + sumA b
  | [], b => by simp [sumA]
  | o :: r, b => by simp only [List.cons_append, sumA, sumA_app r b]; omega
theorem sumB_app : ∀ (a b : List Op), sumB (a ++ b) = sumB a + sumB b
  | [], b => by simp [sumB]
  | o :: r, b => by simp only [List.cons_append, sumB, sumB_app r b]; omega
theorem lenA_sum : ∀ (l : List Op) (n : Int), (∀ o ∈ l, 0 ≤ opLen o) → 0 ≤ n → n ≤ 1048576 → lenA l n = min (n + sumA l) 1048576 ∧ 0 ≤ sumA l
  | [], n, _, h1, h2 => by simp only [lenA, sumA]; omega
  | o :: r, n, h, h1, h2 => by
    have ho := h o (List.mem_cons_self ..)
    simp only [lenA, sumA]
    have hx : 0 ≤ (if o.kind = 2 then n else n + opLen o) ∧ (if o.kind = 2 then n else n + opLen o) = n + (if o.kind = 2 then 0 else opLen o) := by split <;> omega
    have hy : 0 ≤ (if o.kind = 2 then 0 else opLen o) := by split <;> omega
    rw [hx.2]
    rw [hx.2] at hx
    generalize (if o.kind = 2 then 0 else opLen o) = y at *
    obtain ⟨e1, e2⟩ := lenA_sum r (min (n + y) 1048576) (fun x hx => h x (List.mem_cons_of_mem _ hx)) (by omega) (by omega)
    rw [e1]
    omega
theorem lenB_sum : ∀ (l : List Op) (n : Int), (∀ o ∈ l, 0 ≤ opLen o) → 0 ≤ n → n ≤ 1048576 → lenB l n = min (n + sumB l) 1048576 ∧ 0 ≤ sumB l
  | [], n, _, h1, h2 => by simp only [lenB, sumB]; omega
  | o :: r, n, h, h1, h2 => by
    have ho := h o (List.mem_cons_self ..)
    simp only [lenB, sumB]
    have hx : 0 ≤ (if o.kind = 1 then n else n + opLen o) ∧ (if o.kind = 1 then n else n + opLen o) = n + (if o.kind = 1 then 0 else opLen o) := by split <;> omega
    have hy : 0 ≤ (if o.kind = 1 then 0 else opLen o) := by split <;> omega
    rw [hx.2]
    rw [hx.2] at hx
    generalize (if o.kind = 1 then 0 else opLen o) = y at *
    obtain ⟨e1, e2⟩ := lenB_sum r (min (n + y) 1048576) (fun x hx => h x (List.mem_cons_of_mem _ hx)) (by omega) (by omega)
    rw [e1]
    omega
theorem rOp_len {list d : Int} {o : Op} (h : rOp list d o) : 0 ≤ opLen o := by
  unfold opLen
  split
  · decide
  · by_cases hk : o.kind = 0
    · have := (h.1 hk).1; omega
    · have hr := h.2 hk
      obtain ⟨k, n, l, e⟩ := o
      simp only at hk ⊢
      rw [rightOp, if_neg hk] at hr
      split at hr
      · cases hr
      · omega
theorem sumA_mem : ∀ {l : List Op} {o : Op}, (∀ o ∈ l, 0 ≤ opLen o) → o ∈ l → o.kind ≠ 2 → opLen o ≤ sumA l
  | a :: r, o, h, ho, hk => by
    have hr := (lenA_sum r 0 (fun x hx => h x (List.mem_cons_of_mem _ hx)) (by decide) (by decide)).2
    have ha := h a (List.mem_cons_self ..)
    simp only [sumA]
    rcases List.mem_cons.1 ho with rfl | ho
    · rw [if_neg hk]; omega
    · have := sumA_mem (fun x hx => h x (List.mem_cons_of_mem _ hx)) ho hk
      split <;> omega
def sA (w : Wst) : Int := sumA w.out + w.gone.length
def sB (w : Wst) : Int := sumB w.out + w.brought.length
theorem sum_flush (w : Wst) : sumA (flushW w).out = sA w ∧ sumB (flushW w).out = sB w := by
  simp only [flushW, flushO, sA, sB, sumA_app, sumB_app]
  constructor
  · by_cases hg : w.gone.length = 0
    · rw [if_pos hg]
      by_cases hb : w.brought.length = 0
      · rw [if_pos hb]; simp [sumA]; omega
      · rw [if_neg hb]; simp [sumA]; omega
    · rw [if_neg hg]
      by_cases hb : w.brought.length = 0
      · rw [if_pos hb]; simp [sumA, opLen]
      · rw [if_neg hb]; simp [sumA, opLen]
  · by_cases hg : w.gone.length = 0
    · rw [if_pos hg]
      by_cases hb : w.brought.length = 0
      · rw [if_pos hb]; simp [sumB]; omega
      · rw [if_neg hb]; simp [sumB, opLen]
    · rw [if_neg hg]
      by_cases hb : w.brought.length = 0
      · rw [if_pos hb]; simp [sumB]; omega
      · rw [if_neg hb]; simp [sumB, opLen]
theorem sum_keep (w : Wst) (n : Int) : sA (keepW w n) = sA w + n ∧ sB (keepW w n) = sB w + n := by
  have hf := sum_flush w
  simp only [keepW]
  have e1 : ∀ x, sA ⟨x, [], []⟩ = sumA x := fun x => by simp [sA]
  have e2 : ∀ x, sB ⟨x, [], []⟩ = sumB x := fun x => by simp [sB]
  rw [e1, e2, ← hf.1, ← hf.2]
  rcases keepO_cases (flushW w).out n with e | ⟨a, q, e1, e2, e3⟩
  · rw [e, sumA_app, sumB_app]
    simp [sumA, sumB, opLen]
  · rw [e3, e1, sumA_app, sumB_app, sumA_app, sumB_app]
    simp only [sumA, sumB, opLen, e2]
    simp
    omega
theorem sum_op {list d : Int} {w : Wst} {o : Op} (hr : rightOp list o d = true) : sA (nrmOp list o w) = sA w + (if o.kind = 2 then 0 else opLen o) ∧ sB (nrmOp list o w) = sB w + (if o.kind = 1 then 0 else opLen o) := by
  have hl : ∀ l, ((normsT l).length : Int) = l.length := fun l => by simp [normsT]
  obtain ⟨k, n, l, e⟩ := o
  rw [rightOp] at hr
  rw [nrmOp_at]
  simp only [opLen]
  split at hr
  · rename_i hk
    subst hk
    rw [if_pos rfl]
    simp only [Bool.and_eq_true, decide_eq_true_eq] at hr
    have := sum_keep w n
    simp
    omega
  · rename_i hk
    rw [if_neg hk]
    split at hr
    · cases hr
    · rename_i hn
      split at hr
      · rename_i h3
        by_cases k1 : k = 1
        · subst k1
          rw [if_pos rfl]
          simp only [sA, sB, List.length_append]
          simp [hl]
          omega
        · have k2 : k = 2 := by omega
          subst k2
          rw [if_neg k1, if_pos rfl]
          simp only [sA, sB, List.length_append]
          simp [hl]
          omega
      · rename_i h3
        have k3 : k = 3 := by omega
        subst k3
        rw [if_neg (by omega), if_neg (by omega), if_pos rfl]
        split
        · have := sum_keep w 1
          simp
          omega
        · have := sum_flush w
          simp only [sA, sB, sumA_app, sumB_app, sumA, sumB, opLen] at this ⊢
          simp
          omega
mutual
theorem rightE_nrm : ∀ (e : Edit) (d : Int), rightE e d = true → rightE (nrmE e) d = true
  | .mk k o n w ks l os, d, h => by
    have h1 := rightKs_nrm ks
    have h2 := okW_nrm l os
    have h4 := sum_nrm l os
    rw [rightE] at h
    split at h
    · cases h
    · rename_i a
      split at h
      · cases h
      · rename_i b
        have nn : noneT Tree.nil = true := rfl
        by_cases k1 : k = 1
        · subst k1
          rw [if_pos rfl] at h
          have hl : l = 0 := by
            apply Classical.byContradiction
            intro hl
            exact b (.inr (.inr ⟨by decide, .inl hl⟩))
          simp only [Bool.and_eq_true, decide_eq_true_eq] at h
          rw [nrmE, if_pos rfl, rightE, if_neg a, if_neg (by simp [hl]), if_pos rfl]
          simp only [Bool.and_eq_true, decide_eq_true_eq]
          rw [kind_norm, kind_norm]
          exact ⟨⟨rightT_norm _ _ h.1.1, rightT_norm _ _ h.1.2⟩, h.2⟩
        · rw [if_neg k1] at h
          simp only [Bool.and_eq_true, decide_eq_true_eq] at h
          obtain ⟨⟨⟨⟨x1, x2⟩, x3⟩, x4⟩, x5⟩ := h
          rw [nrmE, if_neg k1]
          by_cases k2 : k = 2
          · have hl : l = 0 := by
              apply Classical.byContradiction
              intro hl
              exact b (.inr (.inr ⟨by omega, .inl hl⟩))
            rw [if_pos k2, rightE, if_neg a, if_neg (by simp [nn, hl, k2]), if_neg k1]
            simp only [Bool.and_eq_true, decide_eq_true_eq]
            exact ⟨⟨⟨⟨x1, h1 _ _ x2⟩, x3⟩, rfl⟩, by decide⟩
          · rw [if_neg k2]
            by_cases k3 : k = 3
            · rw [if_pos k3, rightE, if_neg a, if_neg (by simp [nn, k3]), if_neg k1]
              simp only [Bool.and_eq_true, decide_eq_true_eq]
              have hall := rightOs_all.1 x4
              obtain ⟨y1, y2⟩ := lenA_sum os 0 (fun o ho => rOp_len (rOp_of (hall o ho))) (by decide) (by decide)
              obtain ⟨z1, z2⟩ := lenB_sum os 0 (fun o ho => rOp_len (rOp_of (hall o ho))) (by decide) (by decide)
              have hw := h2 (d - 1) W0 x4 ⟨fun o ho => (by cases ho), rfl, rfl⟩
              have hs := h4 (d - 1) W0 x4
              have hff := okW_flush hw
              have hsf := sum_flush (nrmOs l os W0)
              have e0 : sA W0 = 0 ∧ sB W0 = 0 := ⟨rfl, rfl⟩
              have hA := lenA_sum (flushW (nrmOs l os W0)).out 0 (fun o ho => rOp_len (hff.out o ho)) (by decide) (by decide)
              have hB := lenB_sum (flushW (nrmOs l os W0)).out 0 (fun o ho => rOp_len (hff.out o ho)) (by decide) (by decide)
              refine ⟨⟨⟨⟨rfl, rfl⟩, x3⟩, rightOs_all.2 (fun o ho => rOp_to (hff.out o ho) (fun hk => ?_))⟩, ?_, ?_⟩
              · have hm := sumA_mem (fun o ho => rOp_len (hff.out o ho)) ho (by omega)
                unfold opLen at hm
                rw [if_neg (by omega)] at hm
                omega
              · show lenA (flushW (nrmOs l os W0)).out 0 < 1048576
                omega
              · show lenB (flushW (nrmOs l os W0)).out 0 < 1048576
                omega
            · have hl : l = 0 := by
                apply Classical.byContradiction
                intro hl
                exact b (.inr (.inr ⟨k3, .inl hl⟩))
              rw [if_neg k3, rightE, if_neg a, if_neg (by simp [nn, hl]), if_neg k1]
              simp only [Bool.and_eq_true, decide_eq_true_eq]
              exact ⟨⟨⟨⟨rfl, rfl⟩, x3⟩, rfl⟩, by decide⟩
theorem rightKs_nrm : ∀ (ks : List (KidOf Edit)) (last d : Int), rightKs last ks d = true → rightKs last (nrmKs ks) d = true
  | [], _, _, _ => rfl
  | k :: r, last, d, h => by
    simp only [rightKs, Bool.and_eq_true] at h
    have h1 := rightKid_nrm k last d h.1
    have h2 := rightKs_nrm r k.at_ d h.2
    simp only [nrmKs, rightKs, Bool.and_eq_true]
    exact ⟨h1, by rw [nrmKid_at]; exact h2⟩
theorem rightKid_nrm : ∀ (k : KidOf Edit) (last d : Int), rightKid last k d = true → rightKid last (nrmKid k) d = true
  | ⟨a, e⟩, last, d, h => by
    simp only [rightKid, Bool.and_eq_true] at h
    have h1 := rightE_nrm e d h.2
    simp only [nrmKid, rightKid, Bool.and_eq_true]
    rw [nrmE_kind]
    exact ⟨h.1, h1⟩
theorem okW_nrm (list : Int) : ∀ (os : List (OpOf Edit)) (d : Int) (w : Wst), rightOs list os d = true → OkW list d w → OkW list d (nrmOs list os w)
  | [], _, _, _, hw => hw
  | o :: r, d, w, h, hw => by
    simp only [rightOs, Bool.and_eq_true] at h
    have h1 := okW_nrmOp list o d w h.1 hw
    exact okW_nrm list r d _ h.2 h1
theorem okW_nrmOp (list : Int) : ∀ (o : OpOf Edit) (d : Int) (w : Wst), rightOp list o d = true → OkW list d w → OkW list d (nrmOp list o w)
  | ⟨k, n, l, e⟩, d, w, h, hw => okW_op (o := ⟨k, n, l, e⟩) hw h (fun he => rightE_nrm e d he)
theorem sum_nrm (list : Int) : ∀ (os : List (OpOf Edit)) (d : Int) (w : Wst), rightOs list os d = true → sA (nrmOs list os w) = sA w + sumA os ∧ sB (nrmOs list os w) = sB w + sumB os
  | [], _, _, _ => by simp [nrmOs, sumA, sumB]
  | o :: r, d, w, h => by
    simp only [rightOs, Bool.and_eq_true] at h
    have h1 := sum_op (w := w) h.1
    have h2 := sum_nrm list r d (nrmOp list o w) h.2
    simp only [nrmOs, sumA, sumB]
    omega
end
end Go.AM.Ytlahjnelghpmeaa

namespace Go.AM.Ytlahjnelghpmeaa
open Go.AM Go.Proofs
theorem rngK_app : ∀ {a b : List Tree}, rngK (a ++ b) ↔ rngK a ∧ rngK b
  | [], b => by simp [rngK]
  | t :: r, b => by simp only [List.cons_append, rngK]; rw [rngK_app (a := r), and_assoc]
mutual
theorem rng_norm : ∀ (t : Tree), rng t → rng (normT t)
  | .mk k w ks, h => by
    simp only [rng] at h
    obtain ⟨h1, h2, h3⟩ := h
    have h4 := rngK_norm ks h3
    simp only [normT]
    split
    · simp only [Tree.nil, rng, rngK]
      exact ⟨by decide, by simp, trivial⟩
    · split
      · obtain ⟨r1, e1⟩ := trim_pre w
        obtain ⟨r2, e2⟩ := trimK_pre (normK ks)
        simp only [rng]
        refine ⟨by decide, fun x hx => h2 x (by rw [e1]; exact List.mem_append.2 (Or.inl hx)), ?_⟩
        rw [e2] at h4
        exact (rngK_app.1 h4).1
      · simp only [rng]
        exact ⟨h1, h2, h4⟩
theorem rngK_norm : ∀ (l : List Tree), rngK l → rngK (normK l)
  | [], _ => trivial
  | t :: r, h => by
    simp only [rngK] at h
    have h1 := rng_norm t h.1
    have h2 := rngK_norm r h.2
    simp only [normK, rngK]
    exact ⟨h1, h2⟩
end
theorem rngK_norms : ∀ {l : List Tree}, rngK l → rngK (normsT l)
  | [], _ => trivial
  | t :: r, h => by
    simp only [rngK] at h
    have h2 := rngK_norms h.2
    simp only [normsT] at h2
    simp only [normsT, List.map_cons, rngK]
    exact ⟨rng_norm t h.1, h2⟩
theorem rng_nilT : rng Tree.nil := by
  simp only [Tree.nil, rng, rngK]
  exact ⟨by decide, by simp, trivial⟩
structure RngW (w : Wst) : Prop where
  out : ∀ o ∈ w.out, rngK o.l ∧ rngE o.e
  gone : rngK w.gone
  brought : rngK w.brought
theorem rngE_none : rngE Edit.nil := by
  simp only [Edit.nil, rngE, rngKs, rngOs]
  exact ⟨by unfold isI; omega, rng_nilT, rng_nilT, by simp, by unfold isI; omega, trivial, trivial⟩
theorem rngW_flush {w : Wst} (h : RngW w) : RngW (flushW w) := by
  refine ⟨?_, trivial, trivial⟩
  simp only [flushW, flushO]
  intro o ho
  rcases List.mem_append.1 ho with ho | ho
  · exact h.out o ho
  rcases List.mem_append.1 ho with ho | ho
  · split at ho
    · cases ho
    · simp only [List.mem_singleton] at ho
      subst ho
      exact ⟨h.gone, rngE_none⟩
  · split at ho
    · cases ho
    · simp only [List.mem_singleton] at ho
      subst ho
      exact ⟨h.brought, rngE_none⟩
theorem rngW_keep {w : Wst} {n : Int} (h : RngW w) : RngW (keepW w n) := by
  have hf := rngW_flush h
  refine ⟨?_, trivial, trivial⟩
  simp only [keepW]
  intro o ho
  rcases keepO_cases (flushW w).out n with e | ⟨a, q, e1, e2, e3⟩
  · rw [e] at ho
    rcases List.mem_append.1 ho with ho | ho
    · exact hf.out o ho
    · simp only [List.mem_singleton] at ho
      subst ho
      exact ⟨trivial, rngE_none⟩
  · rw [e3] at ho
    rcases List.mem_append.1 ho with ho | ho
    · exact hf.out o (by rw [e1]; exact List.mem_append.2 (Or.inl ho))
    · simp only [List.mem_singleton] at ho
      subst ho
      exact hf.out q (by rw [e1]; simp)
theorem rngW_op {list : Int} {w : Wst} {o : Op} (h : RngW w) (hl : rngK o.l) (he : rngE (nrmE o.e)) : RngW (nrmOp list o w) := by
  rw [nrmOp_at]
  split
  · exact rngW_keep h
  · split
    · exact ⟨h.out, rngK_app.2 ⟨h.gone, rngK_norms hl⟩, h.brought⟩
    · split
      · exact ⟨h.out, h.gone, rngK_app.2 ⟨h.brought, rngK_norms hl⟩⟩
      · split
        · split
          · exact rngW_keep h
          · refine ⟨?_, trivial, trivial⟩
            intro o ho
            rcases List.mem_append.1 ho with ho | ho
            · exact (rngW_flush h).out o ho
            · simp only [List.mem_singleton] at ho
              subst ho
              exact ⟨trivial, he⟩
        · exact h
theorem rngOs_every : ∀ {os : List Op}, (∀ o ∈ os, rngOp o) → rngOs os
  | [], _ => trivial
  | o :: r, h => by
    simp only [rngOs]
    exact ⟨h o (List.mem_cons_self ..), rngOs_every (fun x hx => h x (List.mem_cons_of_mem _ hx))⟩
theorem rightOp_rng {list d : Int} {o : Op} (h : rightOp list o d = true) (hl : rngK o.l) (he : rngE o.e) : rngOp o := by
  have hn := rightOp_n h
  obtain ⟨k, n, l, e⟩ := o
  simp only at hn hl he
  simp only [rngOp]
  refine ⟨?_, by unfold isI; omega, hl, he⟩
  rw [rightOp] at h
  unfold isI
  split at h
  · omega
  · split at h
    · cases h
    · omega
mutual
theorem rngE_nrm' : ∀ (e : Edit) (d : Int), rightE e d = true → rngE e → rngE (nrmE e)
  | .mk k o n w ks l os, d, hr, h => by
    have hin := rightE_in hr
    have hout := rightE_in (rightE_nrm _ _ hr)
    simp only [Edit.kids_mk, Edit.ops_mk, Edit.list_mk] at hin
    simp only [rngE] at h
    obtain ⟨h1, h2, h3, h4, h5, h6, h7⟩ := h
    have i6 := rngKs_nrm ks (d - 1) (fun k hk => (hin.1 k hk).1) h6
    have i7 := rngOs_nrm l os (d - 1) hin.2 h7 W0 ⟨fun o ho => (by cases ho), trivial, trivial⟩
    rw [nrmE] at hout ⊢
    by_cases k1 : k = 1
    · rw [if_pos k1]
      simp only [rngE]
      exact ⟨h1, rng_norm o h2, rng_norm n h3, by simp, h5, trivial, trivial⟩
    · rw [if_neg k1] at hout ⊢
      by_cases k2 : k = 2
      · rw [if_pos k2]
        simp only [rngE]
        exact ⟨h1, rng_nilT, rng_nilT, h4, h5, i6, trivial⟩
      · rw [if_neg k2] at hout ⊢
        by_cases k3 : k = 3
        · rw [if_pos k3] at hout ⊢
          simp only [rngE]
          refine ⟨h1, rng_nilT, rng_nilT, by simp, h5, trivial, rngOs_every (fun q hq => ?_)⟩
          have hx := hout.2 q hq
          have hy := (rngW_flush i7).out q hq
          exact rightOp_rng hx hy.1 hy.2
        · rw [if_neg k3]
          simp only [rngE]
          exact ⟨h1, rng_nilT, rng_nilT, by simp, h5, trivial, trivial⟩
theorem rngKs_nrm : ∀ (ks : List (KidOf Edit)) (d : Int), (∀ k ∈ ks, rightE k.e d = true) → rngKs ks → rngKs (nrmKs ks)
  | [], _, _, _ => trivial
  | k :: r, d, hr, h => by
    simp only [rngKs] at h
    have h1 := rngKid_nrm k d (hr k (List.mem_cons_self ..)) h.1
    have h2 := rngKs_nrm r d (fun x hx => hr x (List.mem_cons_of_mem _ hx)) h.2
    simp only [nrmKs, rngKs]
    exact ⟨h1, h2⟩
theorem rngKid_nrm : ∀ (k : KidOf Edit) (d : Int), rightE k.e d = true → rngKid k → rngKid (nrmKid k)
  | ⟨a, e⟩, d, hr, h => by
    simp only [rngKid] at h
    have h2 := rngE_nrm' e d hr h.2
    simp only [nrmKid, rngKid]
    exact ⟨h.1, h2⟩
theorem rngOs_nrm (list : Int) : ∀ (os : List (OpOf Edit)) (d : Int), (∀ o ∈ os, rightOp list o d = true) → rngOs os → ∀ (w : Wst), RngW w → RngW (nrmOs list os w)
  | [], _, _, _, w, hw => hw
  | o :: r, d, hr, h, w, hw => by
    simp only [rngOs] at h
    have h1 := rngOp_nrm list o d (hr o (List.mem_cons_self ..)) h.1 w hw
    exact rngOs_nrm list r d (fun x hx => hr x (List.mem_cons_of_mem _ hx)) h.2 _ h1
theorem rngOp_nrm (list : Int) : ∀ (o : OpOf Edit) (d : Int), rightOp list o d = true → rngOp o → ∀ (w : Wst), RngW w → RngW (nrmOp list o w)
  | ⟨k, n, l, e⟩, d, hr, h, w, hw => by
    simp only [rngOp] at h
    by_cases k3 : k = 3
    · have he : rightE e d = true := by
        rw [rightOp, if_neg (by omega), ] at hr
        split at hr
        · cases hr
        · rw [if_neg (by omega)] at hr
          simp only [Bool.and_eq_true] at hr
          exact hr.1.2
      exact rngW_op (o := ⟨k, n, l, e⟩) hw h.2.2.1 (rngE_nrm' e d he h.2.2.2)
    · have hs : rngE (nrmE Edit.nil) := by
        show rngE (.mk 0 Tree.nil Tree.nil [] [] 0 [])
        exact rngE_none
      have e2 : nrmOp list ⟨k, n, l, e⟩ w = nrmOp list ⟨k, n, l, Edit.nil⟩ w := by
        simp only [nrmOp]
        rw [if_neg k3, if_neg k3]
      rw [e2]
      exact rngW_op (o := ⟨k, n, l, Edit.nil⟩) hw h.2.2.1 hs
end
end Go.AM.Ytlahjnelghpmeaa
