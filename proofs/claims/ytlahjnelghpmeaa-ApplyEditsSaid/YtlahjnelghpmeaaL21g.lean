import Derived.Test.YtlahjnelghpmeaaG21a
set_option linter.unusedSimpArgs false
set_option linter.unusedVariables false
namespace Go.AM.Ytlahjnelghpmeaa
open Go.AM Go.Proofs

def args52 : ArgL (Edit × Tree × Unit) := (.cons (aEl .edit) (.cons (aEl .tree) .nil))
def pre52 (a : Edit × Tree × Unit) : Prop := (massE a.1 ≤ 1000000 ∧ rngE a.1 ∧ ∃ d, rightE a.1 d = true) ∧ mass a.2.1 ≤ 100000000000 ∧ rng a.2.1
noncomputable def res52 (a : Edit × Tree × Unit) : V U := .tup [(true, [.int .i64 (Tree.kind (orNil ((doE false a.1 a.2.1).map normT))), .slice (U := U) .u64 (Tree.words (orNil ((doE false a.1 a.2.1).map normT))) .unk, .slice (U := U) .tree (Tree.kids (orNil ((doE false a.1 a.2.1).map normT))) .unk]), (false, [.bool ((doE false a.1 a.2.1).isSome)])]
noncomputable def spec52 : Fs U := fs args52 (fun a => [pre52 a]) res52

def args115 : ArgL (Tree × Int × Unit) := (.cons (aEl .tree) (.cons (aInt .i64) .nil))
def pre115 (a : Tree × Int × Unit) : Prop := 0 ≤ a.2.1
noncomputable def res115 (a : Tree × Int × Unit) : V U := .c (.int .u64 (wordAt a.1 a.2.1))
noncomputable def spec115 : Fs U := fs args115 (fun a => [pre115 a]) res115

def args117 : ArgL (Tree × Int × Unit) := (.cons (aEl .tree) (.cons (aInt .i64) .nil))
def pre117 (a : Tree × Int × Unit) : Prop := 0 ≤ a.2.1
noncomputable def res117 (a : Tree × Int × Unit) : V U := .agg [.int .i64 (Tree.kind (kidAt a.1 a.2.1)), .slice (U := U) .u64 (Tree.words (kidAt a.1 a.2.1)) .unk, .slice (U := U) .tree (Tree.kids (kidAt a.1 a.2.1)) .unk]
noncomputable def spec117 : Fs U := fs args117 (fun a => [pre117 a]) res117

def args53 : ArgL (Edit × Tree × Unit) := (.cons (aEl .edit) (.cons (aEl .tree) .nil))
def pre53 (a : Edit × Tree × Unit) : Prop := (massE a.1 ≤ 1000000 ∧ rngE a.1 ∧ ∃ d, rightE a.1 d = true) ∧ mass a.2.1 ≤ 100000000000 ∧ rng a.2.1
def mu53 (a : Edit × Tree × Unit) : Nat := 2 * massE a.1 + 1
noncomputable def res53 (a : Edit × Tree × Unit) : V U := .tup [(true, [.int .i64 (Tree.kind (orNil (doE true a.1 a.2.1))), .slice (U := U) .u64 (Tree.words (orNil (doE true a.1 a.2.1))) .unk, .slice (U := U) .tree (Tree.kids (orNil (doE true a.1 a.2.1))) .unk]), (false, [.bool ((doE true a.1 a.2.1).isSome)])]
noncomputable def spec53 : Fs U := fs args53 (fun a => [pre53 a]) res53

def args83 : ArgL (Edit × Tree × Unit) := (.cons (aEl .edit) (.cons (aEl .tree) .nil))
def pre83 (a : Edit × Tree × Unit) : Prop := Edit.kind a.1 = 2 ∧ (massE a.1 ≤ 1000000 ∧ rngE a.1 ∧ ∃ d, rightE a.1 d = true) ∧ mass a.2.1 ≤ 100000000000 ∧ rng a.2.1
def mu83 (a : Edit × Tree × Unit) : Nat := 2 * massE a.1
noncomputable def res83 (a : Edit × Tree × Unit) : V U := .tup [(true, [.int .i64 (Tree.kind (orNil (strD true a.1 a.2.1))), .slice (U := U) .u64 (Tree.words (orNil (strD true a.1 a.2.1))) .unk, .slice (U := U) .tree (Tree.kids (orNil (strD true a.1 a.2.1))) .unk]), (false, [.bool ((strD true a.1 a.2.1).isSome)])]
noncomputable def spec83 : Fs U := fs args83 (fun a => [pre83 a]) res83

def args84 : ArgL (Edit × Tree × Unit) := (.cons (aEl .edit) (.cons (aEl .tree) .nil))
def pre84 (a : Edit × Tree × Unit) : Prop := Edit.kind a.1 = 3 ∧ (massE a.1 ≤ 1000000 ∧ rngE a.1 ∧ ∃ d, rightE a.1 d = true) ∧ mass a.2.1 ≤ 100000000000 ∧ rng a.2.1
def mu84 (a : Edit × Tree × Unit) : Nat := 2 * massE a.1
noncomputable def res84 (a : Edit × Tree × Unit) : V U := .tup [(true, [.int .i64 (Tree.kind (lstT a.1 (lstD true a.1 a.2.1))), .slice (U := U) .u64 (Tree.words (lstT a.1 (lstD true a.1 a.2.1))) .unk, .slice (U := U) .tree (Tree.kids (lstT a.1 (lstD true a.1 a.2.1))) .unk]), (false, [.bool ((endD (lstD true a.1 a.2.1)).isSome)])]
noncomputable def spec84 : Fs U := fs args84 (fun a => [pre84 a]) res84

noncomputable def know52 : List (FuncId × Fs U) := [(32, spec32), (82, spec82)]
def lv52 : Lives U := fun i => match i with
  | 0 => ([(2, []), (3, []), (4, [])], [((.loc 2), []), ((.loc 3), []), ((.loc 4), [])])
  | 1 => ([(4, []), (6, []), (7, [])], [((.loc 4), []), ((.loc 6), [])])
  | 2 => ([(4, []), (6, []), (15, [])], [((.loc 4), []), ((.loc 6), [])])
  | 3 => ([(4, []), (5, [])], [((.loc 4), [])])
  | 4 => ([(4, []), (5, [])], [((.loc 4), [])])
  | _ => ([], [])
noncomputable abbrev A52 (p : List Nat) := awp cfg (know know52) (drawOk cfg (know know52)) Try.f52.ntmps lv52 (cd Try.f52 p)
theorem vc52 (e : Edit) (t : Tree) (Q : AExit → LSt U → Prop) (h : ∀ y_1, y_1 = (e) → ∀ y_2, y_2 = (t) → ∀ y_3, y_3 = ((oneT y_1 y_2)) → ((pre82 (y_1, y_2, ())) ∧ ((((!((doE false y_1 y_2).isSome)) = true → (Q .ret (⟨[(4, .ptr (.loc 4) 0), (5, .c (.bool false))], [((.loc 4), [.int .i64 0, .nils, .nils])], []⟩ : LSt U))) ∧ ((!((doE false y_1 y_2).isSome)) = false → (pre32 (y_3, ())) ∧ (Q .ret (⟨[(4, .ptr (.loc 4) 0), (5, .c (.bool true))], [((.loc 4), [.int .i64 (Tree.kind (normT y_3)), .slice (U := U) .u64 (Tree.words (normT y_3)) .unk, .slice (U := U) .tree (Tree.kids (normT y_3)) .unk])], []⟩ : LSt U))))))) :
    A52 [] (⟨[(0, .agg [.int .i64 (Edit.kind e), .int .i64 (Tree.kind (Edit.old e)), .slice (U := U) .u64 (Tree.words (Edit.old e)) .unk, .slice (U := U) .tree (Tree.kids (Edit.old e)) .unk, .int .i64 (Tree.kind (Edit.new e)), .slice (U := U) .u64 (Tree.words (Edit.new e)) .unk, .slice (U := U) .tree (Tree.kids (Edit.new e)) .unk, .slice (U := U) .wedit (Edit.words e) .unk, .slice (U := U) .kid (Edit.kids e) .unk, .int .i64 (Edit.list e), .slice (U := U) .op (Edit.ops e) .unk]), (1, .agg [.int .i64 (Tree.kind t), .slice (U := U) .u64 (Tree.words t) .unk, .slice (U := U) .tree (Tree.kids t) .unk])], [], []⟩ : LSt U) Q :=
  Eq.mpr (by kernel_rfl) (h _ (reEdit_eq _) _ (reTree_eq _) _ (reTree_eq _))
def Body52 (e : Edit) (t : Tree)  : Prop := awp cfg (know (know52)) (drawOk cfg (know (know52))) Try.f52.ntmps lv52 (cd Try.f52 []) (entry (args52.can (e, t, ())) []) (EndsQ cfg Try.f52.ntmps Try.f52.results.toList (res52 (e, t, ())) [])
theorem make52 (c32 : Contract Try.prog cfg 32 spec32) (c82 : Contract Try.prog cfg 82 spec82) (hb : ∀ (e : Edit) (t : Tree) (_ : Unit), pre52 (e, t, ()) → Body52 e t) : Contract Try.prog cfg 52 spec52 :=
  contract_flat (l := [(32, spec32), (82, spec82)]) cfgOk rfl (⟨c32, c82, trivial⟩) lv52 Try.func52 rfl rfl 2 (fun _ => rfl) (by decide) (fun ⟨e, t, _⟩ => hb e t ())

noncomputable def know115 : List (FuncId × Fs U) := []
def lv115 : Lives U := fun i => match i with
  | 0 => ([(1, []), (2, [])], [((.loc 2), [])])
  | 1 => ([(1, []), (2, []), (9, [])], [((.loc 2), [])])
  | 2 => ([(4, [])], [])
  | 3 => ([(4, [])], [])
  | _ => ([], [])
noncomputable abbrev A115 (p : List Nat) := awp cfg (know know115) (drawOk cfg (know know115)) Try.f115.ntmps lv115 (cd Try.f115 p)
theorem vc115 (t : Tree) (i : Int) (Q : AExit → LSt U → Prop) (h : ((((decide ((i : Int) < ((Tree.words t).length : Int))) = true → ((0 : Int) ≤ i ∧ i < ((Tree.words t).length : Int)) ∧ (Q .ret (⟨[(4, .c (.int .u64 (List.getD (Tree.words t) (Int.toNat i) (0 : Int))))], [], []⟩ : LSt U))) ∧ ((decide ((i : Int) < ((Tree.words t).length : Int))) = false → (Q .ret (⟨[(4, .c (.int .u64 0))], [], []⟩ : LSt U)))))) :
    A115 [] (⟨[(0, .agg [.int .i64 (Tree.kind t), .slice (U := U) .u64 (Tree.words t) .unk, .slice (U := U) .tree (Tree.kids t) .unk]), (1, .c (.int .i64 i))], [], []⟩ : LSt U) Q :=
  Eq.mpr (by kernel_rfl) h
def Body115 (t : Tree) (i : Int)  : Prop := awp cfg (know (know115)) (drawOk cfg (know (know115))) Try.f115.ntmps lv115 (cd Try.f115 []) (entry (args115.can (t, i, ())) []) (EndsQ cfg Try.f115.ntmps Try.f115.results.toList (res115 (t, i, ())) [])
theorem make115 (hb : ∀ (t : Tree) (i : Int) (_ : Unit), pre115 (t, i, ()) → Body115 t i) : Contract Try.prog cfg 115 spec115 :=
  contract_flat (l := []) cfgOk rfl (trivial) lv115 Try.func115 rfl rfl 2 (fun _ => rfl) (by decide) (fun ⟨t, i, _⟩ => hb t i ())

noncomputable def know117 : List (FuncId × Fs U) := []
def lv117 : Lives U := fun i => match i with
  | 0 => ([(1, []), (2, []), (4, [])], [((.loc 2), []), ((.loc 4), [])])
  | 1 => ([(1, []), (2, []), (4, []), (9, [])], [((.loc 2), []), ((.loc 4), [])])
  | 2 => ([(4, [])], [((.loc 4), [])])
  | 3 => ([(4, [])], [((.loc 4), [])])
  | _ => ([], [])
noncomputable abbrev A117 (p : List Nat) := awp cfg (know know117) (drawOk cfg (know know117)) Try.f117.ntmps lv117 (cd Try.f117 p)
theorem vc117 (t : Tree) (i : Int) (Q : AExit → LSt U → Prop) (h : ((((decide ((i : Int) < ((Tree.kids t).length : Int))) = true → ((0 : Int) ≤ i ∧ i < ((Tree.kids t).length : Int)) ∧ (Q .ret (⟨[(4, .ptr (.loc 4) 0)], [((.loc 4), [.int .i64 (Tree.kind (List.getD (Tree.kids t) (Int.toNat i) Tree.nil)), .slice (U := U) .u64 (Tree.words (List.getD (Tree.kids t) (Int.toNat i) Tree.nil)) .unk, .slice (U := U) .tree (Tree.kids (List.getD (Tree.kids t) (Int.toNat i) Tree.nil)) .unk])], []⟩ : LSt U))) ∧ ((decide ((i : Int) < ((Tree.kids t).length : Int))) = false → (Q .ret (⟨[(4, .ptr (.loc 4) 0)], [((.loc 4), [.int .i64 0, .nils, .nils])], []⟩ : LSt U)))))) :
    A117 [] (⟨[(0, .agg [.int .i64 (Tree.kind t), .slice (U := U) .u64 (Tree.words t) .unk, .slice (U := U) .tree (Tree.kids t) .unk]), (1, .c (.int .i64 i))], [], []⟩ : LSt U) Q :=
  Eq.mpr (by kernel_rfl) h
def Body117 (t : Tree) (i : Int)  : Prop := awp cfg (know (know117)) (drawOk cfg (know (know117))) Try.f117.ntmps lv117 (cd Try.f117 []) (entry (args117.can (t, i, ())) []) (EndsQ cfg Try.f117.ntmps Try.f117.results.toList (res117 (t, i, ())) [])
theorem make117 (hb : ∀ (t : Tree) (i : Int) (_ : Unit), pre117 (t, i, ()) → Body117 t i) : Contract Try.prog cfg 117 spec117 :=
  contract_flat (l := []) cfgOk rfl (trivial) lv117 Try.func117 rfl rfl 2 (fun _ => rfl) (by decide) (fun ⟨t, i, _⟩ => hb t i ())

noncomputable def know53 (N : Nat) : List (FuncId × Fs U) := (53, fs args53 (fun a => [pre53 a, mu53 a < N]) res53) :: (83, fs args83 (fun a => [pre83 a, mu83 a < N]) res83) :: (84, fs args84 (fun a => [pre84 a, mu84 a < N]) res84) :: [(31, spec31), (36, spec36), (115, spec115), (116, spec116), (117, spec117)]
def lv53 : Lives U := fun i => match i with
  | 0 => ([(2, []), (3, []), (4, [])], [((.loc 2), []), ((.loc 3), []), ((.loc 4), [])])
  | 1 => ([(2, []), (3, []), (4, []), (6, [])], [((.loc 2), []), ((.loc 3), []), ((.loc 4), []), ((.loc 6), [])])
  | 2 => ([(2, []), (3, []), (4, []), (6, []), (10, [])], [((.loc 2), []), ((.loc 3), []), ((.loc 4), []), ((.loc 6), [])])
  | 3 => ([(4, []), (6, []), (7, [])], [((.loc 4), []), ((.loc 6), [])])
  | 4 => ([(2, []), (3, []), (4, []), (6, []), (10, []), (11, [])], [((.loc 2), []), ((.loc 3), []), ((.loc 4), []), ((.loc 6), [])])
  | 5 => ([(4, []), (6, []), (7, [])], [((.loc 4), []), ((.loc 6), [])])
  | 6 => ([(2, []), (3, []), (4, []), (6, []), (10, []), (13, [])], [((.loc 2), []), ((.loc 3), []), ((.loc 4), []), ((.loc 6), [])])
  | 7 => ([(2, []), (3, []), (4, []), (6, [])], [((.loc 2), []), ((.loc 3), []), ((.loc 4), []), ((.loc 6), [])])
  | 8 => ([(4, []), (6, []), (7, [])], [((.loc 4), []), ((.loc 6), [])])
  | 9 => ([(2, []), (3, []), (4, []), (6, []), (10, []), (21, [])], [((.loc 2), []), ((.loc 3), []), ((.loc 4), []), ((.loc 6), [])])
  | 10 => ([(4, []), (6, []), (7, [])], [((.loc 4), []), ((.loc 6), [])])
  | 11 => ([(2, []), (3, []), (4, []), (6, []), (29, [])], [((.loc 2), []), ((.loc 3), []), ((.loc 4), []), ((.loc 6), [])])
  | 12 => ([(4, []), (6, []), (7, [])], [((.loc 4), []), ((.loc 6), [])])
  | 13 => ([(4, []), (6, []), (38, [])], [((.loc 4), []), ((.loc 6), [])])
  | 14 => ([(4, []), (5, [])], [((.loc 4), [])])
  | 15 => ([(4, []), (5, [])], [((.loc 4), [])])
  | _ => ([], [])
noncomputable abbrev A53 (N : Nat) (p : List Nat) := awp cfg (know (know53 N)) (drawOk cfg (know (know53 N))) Try.f53.ntmps lv53 (cd Try.f53 p)
theorem vc53 (N : Nat) (e : Edit) (t : Tree) (Q : AExit → LSt U → Prop) (h : ∀ y_1, y_1 = (e) → ∀ y_2, y_2 = (t) → ∀ y_3, y_3 = ((Edit.new e)) → ∀ y_4, y_4 = ((Edit.old e)) → ∀ y_5, y_5 = ((orNil (strD true y_1 y_2))) → ∀ y_6, y_6 = ((lstT y_1 (lstD true y_1 y_2))) → ((((((((Edit.kind e) : Int) == 0) = true → ((((!true) = true → (Q .ret (⟨[(4, .ptr (.loc 4) 0), (5, .c (.bool false))], [((.loc 4), [.int .i64 0, .nils, .nils])], []⟩ : LSt U))) ∧ ((!true) = false → (pre31 (y_2, ())) ∧ (Q .ret (⟨[(4, .ptr (.loc 4) 0), (5, .c (.bool true))], [((.loc 4), [.int .i64 (Tree.kind (normT y_2)), .slice (U := U) .u64 (Tree.words (normT y_2)) .unk, .slice (U := U) .tree (Tree.kids (normT y_2)) .unk])], []⟩ : LSt U)))))) ∧ ((((Edit.kind e) : Int) == 0) = false → (((((Edit.kind e) : Int) == 1) = true → ((pre36 (y_4, y_2, ())) ∧ ((((!(sameT (normT y_4) (normT y_2))) = true → (Q .ret (⟨[(4, .ptr (.loc 4) 0), (5, .c (.bool false))], [((.loc 4), [.int .i64 0, .nils, .nils])], []⟩ : LSt U))) ∧ ((!(sameT (normT y_4) (normT y_2))) = false → (pre31 (y_3, ())) ∧ (Q .ret (⟨[(4, .ptr (.loc 4) 0), (5, .c (.bool true))], [((.loc 4), [.int .i64 (Tree.kind (normT y_3)), .slice (U := U) .u64 (Tree.words (normT y_3)) .unk, .slice (U := U) .tree (Tree.kids (normT y_3)) .unk])], []⟩ : LSt U))))))) ∧ ((((Edit.kind e) : Int) == 1) = false → (((((Edit.kind e) : Int) == 2) = true → (pre83 (y_1, y_2, ())) ∧ (mu83 (y_1, y_2, ()) < N) ∧ ((((!((strD true y_1 y_2).isSome)) = true → (Q .ret (⟨[(4, .ptr (.loc 4) 0), (5, .c (.bool false))], [((.loc 4), [.int .i64 0, .nils, .nils])], []⟩ : LSt U))) ∧ ((!((strD true y_1 y_2).isSome)) = false → (pre31 (y_5, ())) ∧ (Q .ret (⟨[(4, .ptr (.loc 4) 0), (5, .c (.bool true))], [((.loc 4), [.int .i64 (Tree.kind (normT y_5)), .slice (U := U) .u64 (Tree.words (normT y_5)) .unk, .slice (U := U) .tree (Tree.kids (normT y_5)) .unk])], []⟩ : LSt U)))))) ∧ ((((Edit.kind e) : Int) == 2) = false → (((((Edit.kind e) : Int) == 3) = true → (pre84 (y_1, y_2, ())) ∧ (mu84 (y_1, y_2, ()) < N) ∧ ((((!((endD (lstD true y_1 y_2)).isSome)) = true → (Q .ret (⟨[(4, .ptr (.loc 4) 0), (5, .c (.bool false))], [((.loc 4), [.int .i64 0, .nils, .nils])], []⟩ : LSt U))) ∧ ((!((endD (lstD true y_1 y_2)).isSome)) = false → (pre31 (y_6, ())) ∧ (Q .ret (⟨[(4, .ptr (.loc 4) 0), (5, .c (.bool true))], [((.loc 4), [.int .i64 (Tree.kind (normT y_6)), .slice (U := U) .u64 (Tree.words (normT y_6)) .unk, .slice (U := U) .tree (Tree.kids (normT y_6)) .unk])], []⟩ : LSt U)))))) ∧ ((((Edit.kind e) : Int) == 3) = false → ((((!false) = true → (Q .ret (⟨[(4, .ptr (.loc 4) 0), (5, .c (.bool false))], [((.loc 4), [.int .i64 0, .nils, .nils])], []⟩ : LSt U))) ∧ ((!false) = false → (pre31 (y_2, ())) ∧ (Q .ret (⟨[(4, .ptr (.loc 4) 0), (5, .c (.bool true))], [((.loc 4), [.int .i64 (Tree.kind (normT y_2)), .slice (U := U) .u64 (Tree.words (normT y_2)) .unk, .slice (U := U) .tree (Tree.kids (normT y_2)) .unk])], []⟩ : LSt U))))))))))))))))) :
    A53 N [] (⟨[(0, .agg [.int .i64 (Edit.kind e), .int .i64 (Tree.kind (Edit.old e)), .slice (U := U) .u64 (Tree.words (Edit.old e)) .unk, .slice (U := U) .tree (Tree.kids (Edit.old e)) .unk, .int .i64 (Tree.kind (Edit.new e)), .slice (U := U) .u64 (Tree.words (Edit.new e)) .unk, .slice (U := U) .tree (Tree.kids (Edit.new e)) .unk, .slice (U := U) .wedit (Edit.words e) .unk, .slice (U := U) .kid (Edit.kids e) .unk, .int .i64 (Edit.list e), .slice (U := U) .op (Edit.ops e) .unk]), (1, .agg [.int .i64 (Tree.kind t), .slice (U := U) .u64 (Tree.words t) .unk, .slice (U := U) .tree (Tree.kids t) .unk])], [], []⟩ : LSt U) Q :=
  Eq.mpr (by kernel_rfl) (h _ (reEdit_eq _) _ (reTree_eq _) _ (reTree_eq _) _ (reTree_eq _) _ (reTree_eq _) _ (reTree_eq _))
def Body53 (N : Nat) (e : Edit) (t : Tree)  : Prop := awp cfg (know (know53 N)) (drawOk cfg (know (know53 N))) Try.f53.ntmps lv53 (cd Try.f53 []) (entry (args53.can (e, t, ())) []) (EndsQ cfg Try.f53.ntmps Try.f53.results.toList (res53 (e, t, ())) [])
abbrev HB53 : Prop := ∀ (N : Nat) (e : Edit) (t : Tree) (_ : Unit), pre53 (e, t, ()) → mu53 (e, t, ()) < N + 1 → Body53 N e t

noncomputable def know83 (N : Nat) : List (FuncId × Fs U) := (53, fs args53 (fun a => [pre53 a, mu53 a < N]) res53) :: (83, fs args83 (fun a => [pre83 a, mu83 a < N]) res83) :: (84, fs args84 (fun a => [pre84 a, mu84 a < N]) res84) :: [(31, spec31), (36, spec36), (115, spec115), (116, spec116), (117, spec117)]
def lv83 : Lives U := fun i => match i with
  | 0 => ([(2, []), (3, []), (4, [])], [((.loc 2), []), ((.loc 3), []), ((.loc 4), [])])
  | 1 => ([(2, []), (3, []), (4, []), (21, [])], [((.loc 2), []), ((.loc 3), []), ((.loc 4), [])])
  | 2 => ([(4, []), (5, [])], [((.loc 4), [])])
  | 3 => ([(2, []), (3, []), (4, []), (6, [])], [((.loc 2), []), ((.loc 3), []), ((.loc 4), []), ((.loc 6), [])])
  | 4 => ([(2, []), (3, []), (4, []), (6, []), (7, []), (8, [])], [((.loc 2), []), ((.loc 3), []), ((.loc 4), []), ((.loc 6), [])])
  | 5 => ([(2, []), (3, []), (4, []), (6, []), (7, []), (8, []), (9, [])], [((.loc 2), []), ((.loc 3), []), ((.loc 4), []), ((.loc 6), [])])
  | 6 => ([(2, []), (3, []), (4, []), (6, []), (7, []), (8, []), (9, []), (45, [])], [((.loc 2), []), ((.loc 3), []), ((.loc 4), []), ((.loc 6), [])])
  | 7 => ([(2, []), (3, []), (4, []), (6, []), (7, []), (8, [])], [((.loc 2), []), ((.loc 3), []), ((.loc 4), []), ((.loc 6), [])])
  | 8 => ([(2, []), (3, []), (4, []), (6, []), (7, []), (8, []), (10, [])], [((.loc 2), []), ((.loc 3), []), ((.loc 4), []), ((.loc 6), [])])
  | 9 => ([(2, []), (3, []), (4, []), (6, []), (7, []), (8, []), (10, []), (69, [])], [((.loc 2), []), ((.loc 3), []), ((.loc 4), []), ((.loc 6), [])])
  | 10 => ([(2, []), (3, []), (4, []), (6, []), (7, []), (8, [])], [((.loc 2), []), ((.loc 3), []), ((.loc 4), []), ((.loc 6), [])])
  | 11 => ([(2, []), (3, []), (4, []), (6, []), (7, []), (8, []), (11, [])], [((.loc 2), []), ((.loc 3), []), ((.loc 4), []), ((.loc 6), [])])
  | 12 => ([(2, []), (3, []), (4, []), (6, []), (7, []), (8, []), (11, []), (12, [])], [((.loc 2), []), ((.loc 3), []), ((.loc 4), []), ((.loc 6), [.any, .own .u64])])
  | 13 => ([(2, []), (3, []), (4, []), (6, []), (7, []), (8, []), (11, []), (12, []), (80, [])], [((.loc 2), []), ((.loc 3), []), ((.loc 4), []), ((.loc 6), [])])
  | 14 => ([(2, []), (3, []), (4, []), (6, []), (7, []), (8, []), (11, []), (12, [])], [((.loc 2), []), ((.loc 3), []), ((.loc 4), []), ((.loc 6), [.any, .own .u64])])
  | 15 => ([(2, []), (3, []), (4, []), (6, []), (7, []), (8, []), (11, []), (12, []), (13, [])], [((.loc 2), []), ((.loc 3), []), ((.loc 4), []), ((.loc 6), [])])
  | 16 => ([(2, []), (3, []), (4, []), (6, []), (7, []), (8, []), (11, []), (12, []), (13, []), (100, [])], [((.loc 2), []), ((.loc 3), []), ((.loc 4), []), ((.loc 6), [])])
  | 17 => ([(2, []), (3, []), (4, []), (6, []), (7, []), (8, []), (11, []), (12, []), (13, []), (14, [])], [((.loc 2), []), ((.loc 3), []), ((.loc 4), []), ((.loc 6), []), ((.loc 14), [])])
  | 18 => ([(2, []), (3, []), (4, []), (6, []), (7, []), (8, []), (11, []), (12, []), (13, []), (14, []), (112, [])], [((.loc 2), []), ((.loc 3), []), ((.loc 4), []), ((.loc 6), []), ((.loc 14), [])])
  | 19 => ([(4, []), (5, [])], [((.loc 4), [])])
  | 20 => ([(2, []), (3, []), (4, []), (6, []), (7, []), (8, []), (11, []), (12, []), (13, [])], [((.loc 2), []), ((.loc 3), []), ((.loc 4), []), ((.loc 6), [])])
  | 21 => ([(2, []), (3, []), (4, []), (6, []), (7, []), (8, []), (11, []), (12, []), (13, [])], [((.loc 2), []), ((.loc 3), []), ((.loc 4), []), ((.loc 6), [])])
  | 22 => ([(2, []), (3, []), (4, []), (6, []), (7, []), (8, []), (11, []), (12, [])], [((.loc 2), []), ((.loc 3), []), ((.loc 4), []), ((.loc 6), [])])
  | 23 => ([(2, []), (3, []), (4, []), (6, []), (8, []), (11, [])], [((.loc 2), []), ((.loc 3), []), ((.loc 4), []), ((.loc 6), [])])
  | 24 => ([(2, []), (3, []), (4, []), (6, []), (8, []), (11, []), (15, [])], [((.loc 2), []), ((.loc 3), []), ((.loc 4), []), ((.loc 6), [.any, .any, .own .tree])])
  | 25 => ([(2, []), (3, []), (4, []), (6, []), (8, []), (11, []), (15, []), (130, [])], [((.loc 2), []), ((.loc 3), []), ((.loc 4), []), ((.loc 6), [])])
  | 26 => ([(2, []), (3, []), (4, []), (6, []), (8, []), (11, []), (15, [])], [((.loc 2), []), ((.loc 3), []), ((.loc 4), []), ((.loc 6), [.any, .any, .own .tree])])
  | 27 => ([(2, []), (3, []), (4, []), (6, []), (8, []), (11, []), (15, []), (16, [])], [((.loc 2), []), ((.loc 3), []), ((.loc 4), []), ((.loc 6), []), ((.loc 16), [])])
  | 28 => ([(2, []), (3, []), (4, []), (6, []), (8, []), (11, []), (15, []), (16, []), (150, [])], [((.loc 2), []), ((.loc 3), []), ((.loc 4), []), ((.loc 6), []), ((.loc 16), [])])
  | 29 => ([(2, []), (3, []), (4, []), (6, []), (8, []), (11, []), (15, []), (16, []), (17, []), (18, [])], [((.loc 2), []), ((.loc 3), []), ((.loc 4), []), ((.loc 6), []), ((.loc 16), []), ((.loc 17), [])])
  | 30 => ([(2, []), (3, []), (4, []), (6, []), (8, []), (11, []), (15, []), (16, []), (17, []), (163, [])], [((.loc 2), []), ((.loc 3), []), ((.loc 4), []), ((.loc 6), []), ((.loc 16), []), ((.loc 17), [])])
  | 31 => ([(4, []), (5, [])], [((.loc 4), [])])
  | 32 => ([(2, []), (3, []), (4, []), (6, []), (8, []), (11, []), (15, []), (16, [])], [((.loc 2), []), ((.loc 3), []), ((.loc 4), []), ((.loc 6), []), ((.loc 16), [])])
  | 33 => ([(2, []), (3, []), (4, []), (6, []), (8, []), (11, []), (15, []), (16, [])], [((.loc 2), []), ((.loc 3), []), ((.loc 4), []), ((.loc 6), []), ((.loc 16), [])])
  | 34 => ([(2, []), (3, []), (4, []), (6, []), (8, []), (11, []), (15, [])], [((.loc 2), []), ((.loc 3), []), ((.loc 4), []), ((.loc 6), [])])
  | 35 => ([(4, []), (5, [])], [((.loc 4), [])])
  | _ => ([], [])
noncomputable def head83_0 (e : Edit) (t : Tree) (x8 : Int) (x7 : Int) (x11 : Int) (x12 : Int) (ml6_1 : List Int) : LSt U := (⟨[(2, .ptr (.loc 2) 0), (3, .ptr (.loc 3) 0), (4, .ptr (.loc 4) 0), (6, .ptr (.loc 6) 0), (7, .c (.int .i64 x7)), (8, .c (.int .i64 x8)), (11, .c (.int .i64 x11)), (12, .c (.int .i64 x12))], [((.loc 2), [.int .i64 (Edit.kind e), .int .i64 (Tree.kind (Edit.old e)), .slice (U := U) .u64 (Tree.words (Edit.old e)) .unk, .slice (U := U) .tree (Tree.kids (Edit.old e)) .unk, .int .i64 (Tree.kind (Edit.new e)), .slice (U := U) .u64 (Tree.words (Edit.new e)) .unk, .slice (U := U) .tree (Tree.kids (Edit.new e)) .unk, .slice (U := U) .wedit (Edit.words e) .unk, .slice (U := U) .kid (Edit.kids e) .unk, .int .i64 (Edit.list e), .slice (U := U) .op (Edit.ops e) .unk]), ((.loc 3), [.int .i64 (Tree.kind t), .slice (U := U) .u64 (Tree.words t) .unk, .slice (U := U) .tree (Tree.kids t) .unk]), ((.loc 4), [.int .i64 0, .nils, .nils]), ((.loc 6), [.int .i64 1, .slice (U := U) .u64 ml6_1 (.own (.l 6 1)), .nils])], []⟩ : LSt U)
noncomputable def head83_1 (e : Edit) (t : Tree) (x8 : Int) (ml6_1 : List Int) (x11_a : Int) (x15_a : Int) (ml6_2_a : List Tree) : LSt U := (⟨[(2, .ptr (.loc 2) 0), (3, .ptr (.loc 3) 0), (4, .ptr (.loc 4) 0), (6, .ptr (.loc 6) 0), (8, .c (.int .i64 x8)), (11, .c (.int .i64 x11_a)), (15, .c (.int .i64 x15_a))], [((.loc 2), [.int .i64 (Edit.kind e), .int .i64 (Tree.kind (Edit.old e)), .slice (U := U) .u64 (Tree.words (Edit.old e)) .unk, .slice (U := U) .tree (Tree.kids (Edit.old e)) .unk, .int .i64 (Tree.kind (Edit.new e)), .slice (U := U) .u64 (Tree.words (Edit.new e)) .unk, .slice (U := U) .tree (Tree.kids (Edit.new e)) .unk, .slice (U := U) .wedit (Edit.words e) .unk, .slice (U := U) .kid (Edit.kids e) .unk, .int .i64 (Edit.list e), .slice (U := U) .op (Edit.ops e) .unk]), ((.loc 3), [.int .i64 (Tree.kind t), .slice (U := U) .u64 (Tree.words t) .unk, .slice (U := U) .tree (Tree.kids t) .unk]), ((.loc 4), [.int .i64 0, .nils, .nils]), ((.loc 6), [.int .i64 1, .slice (U := U) .u64 ml6_1 (.own (.l 6 1)), .slice (U := U) .tree ml6_2_a (.own (.l 6 2))])], []⟩ : LSt U)
noncomputable abbrev A83 (N : Nat) (p : List Nat) := awp cfg (know (know83 N)) (drawOk cfg (know (know83 N))) Try.f83.ntmps lv83 (cd Try.f83 p)
noncomputable abbrev S83 (N : Nat) (p : List Nat) := seqK cfg (know (know83 N)) (drawOk cfg (know (know83 N))) Try.f83.ntmps lv83 (cd Try.f83 p)
theorem vc83 (N : Nat) (e : Edit) (t : Tree) (Q : AExit → LSt U → Prop) (h : ∀ y_1, y_1 = (List.getD (Edit.words e) (Int.toNat ((((Edit.words e).length : Int) : Int) - 1)) (WEdit.mk 0 0 0 0)) → ∀ y_2, y_2 = (List.getD (Edit.kids e) (Int.toNat ((((Edit.kids e).length : Int) : Int) - 1)) (KidOf.mk 0 Edit.nil)) → ((((((Tree.kind t) : Int) != 1) = true → (Q .ret (⟨[(4, .ptr (.loc 4) 0), (5, .c (.bool false))], [((.loc 4), [.int .i64 0, .nils, .nils])], []⟩ : LSt U))) ∧ ((((Tree.kind t) : Int) != 1) = false → ((((Tr ((decide ((0 : Int) < ((Edit.words e).length : Int))) = true)) ∧ (Tr ((decide ((0 : Int) < ((Edit.words e).length : Int))) = true)) ∧ ((decide ((0 : Int) < ((Edit.words e).length : Int))) = true → InR ((((Edit.words e).length : Int) : Int) - 1)) ∧ (Tr ((decide ((0 : Int) < ((Edit.words e).length : Int))) = true)) ∧ (Tr ((decide ((0 : Int) < ((Edit.words e).length : Int))) = true)) ∧ ((decide ((0 : Int) < ((Edit.words e).length : Int))) = true → (0 : Int) ≤ ((((Edit.words e).length : Int) : Int) - 1) ∧ ((((Edit.words e).length : Int) : Int) - 1) < ((Edit.words e).length : Int)) ∧ (Tr ((decide ((0 : Int) < ((Edit.words e).length : Int))) = true)) ∧ (Tr ((decide ((0 : Int) < ((Edit.words e).length : Int))) = true)) ∧ (Tr ((decide ((0 : Int) < ((Edit.words e).length : Int))) = true)) ∧ (Tr ((decide ((0 : Int) < ((Edit.words e).length : Int))) = true)) ∧ ((Tr ((decide ((0 : Int) < ((Edit.words e).length : Int))) = true))) ∧ (((bif (decide ((0 : Int) < ((Edit.words e).length : Int))) then (decide ((((Tree.words t).length : Int) : Int) ≤ (WEdit.at_ y_1))) else false) = true → (InR ((((Edit.words e).length : Int) : Int) - 1)) ∧ ((0 : Int) ≤ ((((Edit.words e).length : Int) : Int) - 1) ∧ ((((Edit.words e).length : Int) : Int) - 1) < ((Edit.words e).length : Int)) ∧ (InR (((WEdit.at_ y_1) : Int) + 1)) ∧ (((Tr ((decide ((0 : Int) < ((Edit.kids e).length : Int))) = true)) ∧ (Tr ((decide ((0 : Int) < ((Edit.kids e).length : Int))) = true)) ∧ ((decide ((0 : Int) < ((Edit.kids e).length : Int))) = true → InR ((((Edit.kids e).length : Int) : Int) - 1)) ∧ (Tr ((decide ((0 : Int) < ((Edit.kids e).length : Int))) = true)) ∧ (Tr ((decide ((0 : Int) < ((Edit.kids e).length : Int))) = true)) ∧ ((decide ((0 : Int) < ((Edit.kids e).length : Int))) = true → (0 : Int) ≤ ((((Edit.kids e).length : Int) : Int) - 1) ∧ ((((Edit.kids e).length : Int) : Int) - 1) < ((Edit.kids e).length : Int)) ∧ (Tr ((decide ((0 : Int) < ((Edit.kids e).length : Int))) = true)) ∧ (Tr ((decide ((0 : Int) < ((Edit.kids e).length : Int))) = true)) ∧ (Tr ((decide ((0 : Int) < ((Edit.kids e).length : Int))) = true)) ∧ (Tr ((decide ((0 : Int) < ((Edit.kids e).length : Int))) = true)) ∧ ((Tr ((decide ((0 : Int) < ((Edit.kids e).length : Int))) = true))) ∧ (((bif (decide ((0 : Int) < ((Edit.kids e).length : Int))) then (decide ((((Tree.kids t).length : Int) : Int) ≤ (KidOf.at_ y_2))) else false) = true → (InR ((((Edit.kids e).length : Int) : Int) - 1)) ∧ ((0 : Int) ≤ ((((Edit.kids e).length : Int) : Int) - 1) ∧ ((((Edit.kids e).length : Int) : Int) - 1) < ((Edit.kids e).length : Int)) ∧ (InR (((KidOf.at_ y_2) : Int) + 1)) ∧ (((LoopWp (A83 N [1, 1, 1, 1, 1, 1, 1, 0, 1, 0, 0]) (head83_0 e t (((KidOf.at_ y_2) : Int) + 1) (((WEdit.at_ y_1) : Int) + 1) 0 0 ([])) (AExit.inBlock 0 (S83 N [1, 1, 1, 1, 1, 1, 1, 1] Q)))))) ∧ ((bif (decide ((0 : Int) < ((Edit.kids e).length : Int))) then (decide ((((Tree.kids t).length : Int) : Int) ≤ (KidOf.at_ y_2))) else false) = false → ((LoopWp (A83 N [1, 1, 1, 1, 1, 1, 1, 0, 1, 0, 0]) (head83_0 e t ((Tree.kids t).length : Int) (((WEdit.at_ y_1) : Int) + 1) 0 0 ([])) (AExit.inBlock 0 (S83 N [1, 1, 1, 1, 1, 1, 1, 1] Q))))))))) ∧ ((bif (decide ((0 : Int) < ((Edit.words e).length : Int))) then (decide ((((Tree.words t).length : Int) : Int) ≤ (WEdit.at_ y_1))) else false) = false → ((Tr ((decide ((0 : Int) < ((Edit.kids e).length : Int))) = true)) ∧ (Tr ((decide ((0 : Int) < ((Edit.kids e).length : Int))) = true)) ∧ ((decide ((0 : Int) < ((Edit.kids e).length : Int))) = true → InR ((((Edit.kids e).length : Int) : Int) - 1)) ∧ (Tr ((decide ((0 : Int) < ((Edit.kids e).length : Int))) = true)) ∧ (Tr ((decide ((0 : Int) < ((Edit.kids e).length : Int))) = true)) ∧ ((decide ((0 : Int) < ((Edit.kids e).length : Int))) = true → (0 : Int) ≤ ((((Edit.kids e).length : Int) : Int) - 1) ∧ ((((Edit.kids e).length : Int) : Int) - 1) < ((Edit.kids e).length : Int)) ∧ (Tr ((decide ((0 : Int) < ((Edit.kids e).length : Int))) = true)) ∧ (Tr ((decide ((0 : Int) < ((Edit.kids e).length : Int))) = true)) ∧ (Tr ((decide ((0 : Int) < ((Edit.kids e).length : Int))) = true)) ∧ (Tr ((decide ((0 : Int) < ((Edit.kids e).length : Int))) = true)) ∧ ((Tr ((decide ((0 : Int) < ((Edit.kids e).length : Int))) = true))) ∧ (((bif (decide ((0 : Int) < ((Edit.kids e).length : Int))) then (decide ((((Tree.kids t).length : Int) : Int) ≤ (KidOf.at_ y_2))) else false) = true → (InR ((((Edit.kids e).length : Int) : Int) - 1)) ∧ ((0 : Int) ≤ ((((Edit.kids e).length : Int) : Int) - 1) ∧ ((((Edit.kids e).length : Int) : Int) - 1) < ((Edit.kids e).length : Int)) ∧ (InR (((KidOf.at_ y_2) : Int) + 1)) ∧ (((LoopWp (A83 N [1, 1, 1, 1, 1, 1, 1, 0, 1, 0, 0]) (head83_0 e t (((KidOf.at_ y_2) : Int) + 1) ((Tree.words t).length : Int) 0 0 ([])) (AExit.inBlock 0 (S83 N [1, 1, 1, 1, 1, 1, 1, 1] Q)))))) ∧ ((bif (decide ((0 : Int) < ((Edit.kids e).length : Int))) then (decide ((((Tree.kids t).length : Int) : Int) ≤ (KidOf.at_ y_2))) else false) = false → ((LoopWp (A83 N [1, 1, 1, 1, 1, 1, 1, 0, 1, 0, 0]) (head83_0 e t ((Tree.kids t).length : Int) ((Tree.words t).length : Int) 0 0 ([])) (AExit.inBlock 0 (S83 N [1, 1, 1, 1, 1, 1, 1, 1] Q)))))))))))))))) :
    A83 N [] (⟨[(0, .agg [.int .i64 (Edit.kind e), .int .i64 (Tree.kind (Edit.old e)), .slice (U := U) .u64 (Tree.words (Edit.old e)) .unk, .slice (U := U) .tree (Tree.kids (Edit.old e)) .unk, .int .i64 (Tree.kind (Edit.new e)), .slice (U := U) .u64 (Tree.words (Edit.new e)) .unk, .slice (U := U) .tree (Tree.kids (Edit.new e)) .unk, .slice (U := U) .wedit (Edit.words e) .unk, .slice (U := U) .kid (Edit.kids e) .unk, .int .i64 (Edit.list e), .slice (U := U) .op (Edit.ops e) .unk]), (1, .agg [.int .i64 (Tree.kind t), .slice (U := U) .u64 (Tree.words t) .unk, .slice (U := U) .tree (Tree.kids t) .unk])], [], []⟩ : LSt U) Q :=
  Eq.mpr (by kernel_rfl) (h _ rfl _ rfl)
theorem vc83_l0 (N : Nat) (e : Edit) (t : Tree) (x8 : Int) (x7 : Int) (x11 : Int) (x12 : Int) (ml6_1 : List Int) (N0 : LSt U → Prop) (Q : AExit → LSt U → Prop) (h : ∀ y_1, y_1 = (t) → ∀ y_2, y_2 = (List.getD (Edit.words e) (Int.toNat x11) (WEdit.mk 0 0 0 0)) → (((decide ((x12 : Int) < x7)) = true → (pre115 (y_1, x12, ())) ∧ ((Tr ((decide ((x11 : Int) < ((Edit.words e).length : Int))) = true)) ∧ (Tr ((decide ((x11 : Int) < ((Edit.words e).length : Int))) = true)) ∧ (Tr ((decide ((x11 : Int) < ((Edit.words e).length : Int))) = true)) ∧ ((decide ((x11 : Int) < ((Edit.words e).length : Int))) = true → (0 : Int) ≤ x11 ∧ x11 < ((Edit.words e).length : Int)) ∧ (Tr ((decide ((x11 : Int) < ((Edit.words e).length : Int))) = true)) ∧ (Tr ((decide ((x11 : Int) < ((Edit.words e).length : Int))) = true)) ∧ (Tr ((decide ((x11 : Int) < ((Edit.words e).length : Int))) = true)) ∧ (Tr ((decide ((x11 : Int) < ((Edit.words e).length : Int))) = true)) ∧ ((Tr ((decide ((x11 : Int) < ((Edit.words e).length : Int))) = true))) ∧ (((bif (decide ((x11 : Int) < ((Edit.words e).length : Int))) then (((WEdit.at_ y_2) : Int) == x12) else false) = true → ((0 : Int) ≤ x11 ∧ x11 < ((Edit.words e).length : Int)) ∧ ((pre116 (0, (wordAt y_1 x12), (WEdit.mask y_2), ())) ∧ (((((mix 0 (wordAt y_1 x12) (WEdit.mask y_2)) : Int) != (WEdit.old y_2)) = true → (Q .ret (⟨[(4, .ptr (.loc 4) 0), (5, .c (.bool false))], [((.loc 4), [.int .i64 0, .nils, .nils])], []⟩ : LSt U))) ∧ ((((mix 0 (wordAt y_1 x12) (WEdit.mask y_2)) : Int) != (WEdit.old y_2)) = false → (pre116 ((wordAt y_1 x12), (WEdit.new y_2), (WEdit.mask y_2), ())) ∧ ((InR ((x11 : Int) + 1)) ∧ (((ml6_1.length + ([mix (wordAt y_1 x12) (WEdit.new y_2) (WEdit.mask y_2)]).length) * 8 ≤ 140737488355328) ∧ ((InR ((x12 : Int) + 1)) ∧ (N0 (head83_0 e t x8 x7 ((x11 : Int) + 1) ((x12 : Int) + 1) (ml6_1 ++ ([mix (wordAt y_1 x12) (WEdit.new y_2) (WEdit.mask y_2)]))))))))))) ∧ ((bif (decide ((x11 : Int) < ((Edit.words e).length : Int))) then (((WEdit.at_ y_2) : Int) == x12) else false) = false → ((ml6_1.length + ([wordAt y_1 x12]).length) * 8 ≤ 140737488355328) ∧ ((InR ((x12 : Int) + 1)) ∧ (N0 (head83_0 e t x8 x7 x11 ((x12 : Int) + 1) (ml6_1 ++ ([wordAt y_1 x12]))))))))) ∧ ((decide ((x12 : Int) < x7)) = false → ((LoopWp (A83 N [1, 1, 1, 1, 1, 1, 1, 1, 1, 0, 1, 0, 0]) (head83_1 e t x8 ml6_1 0 0 ([])) (AExit.inBlock 2 (S83 N [1, 1, 1, 1, 1, 1, 1, 1, 1, 1] Q))))))) :
    A83 N [1, 1, 1, 1, 1, 1, 1, 0, 1, 0, 0] (head83_0 e t x8 x7 x11 x12 ml6_1) (AExit.then N0 (AExit.inBlock 0 (S83 N [1, 1, 1, 1, 1, 1, 1, 1] Q))) :=
  Eq.mpr (by kernel_rfl) (h _ (reTree_eq _) _ rfl)
theorem vc83_l1 (N : Nat) (e : Edit) (t : Tree) (x8 : Int) (ml6_1 : List Int) (x11_a : Int) (x15_a : Int) (ml6_2_a : List Tree) (N1 : LSt U → Prop) (Q : AExit → LSt U → Prop) (h : ∀ y_1, y_1 = (t) → ∀ y_2, y_2 = (List.getD (Edit.kids e) (Int.toNat x11_a) (KidOf.mk 0 Edit.nil)) → ∀ y_3, y_3 = ((KidOf.e y_2)) → ∀ y_4, y_4 = ((kidAt y_1 x15_a)) → ∀ y_5, y_5 = ((orNil (doE true y_3 y_4))) → (((decide ((x15_a : Int) < x8)) = true → (pre117 (y_1, x15_a, ())) ∧ ((Tr ((decide ((x11_a : Int) < ((Edit.kids e).length : Int))) = true)) ∧ (Tr ((decide ((x11_a : Int) < ((Edit.kids e).length : Int))) = true)) ∧ (Tr ((decide ((x11_a : Int) < ((Edit.kids e).length : Int))) = true)) ∧ ((decide ((x11_a : Int) < ((Edit.kids e).length : Int))) = true → (0 : Int) ≤ x11_a ∧ x11_a < ((Edit.kids e).length : Int)) ∧ (Tr ((decide ((x11_a : Int) < ((Edit.kids e).length : Int))) = true)) ∧ (Tr ((decide ((x11_a : Int) < ((Edit.kids e).length : Int))) = true)) ∧ (Tr ((decide ((x11_a : Int) < ((Edit.kids e).length : Int))) = true)) ∧ (Tr ((decide ((x11_a : Int) < ((Edit.kids e).length : Int))) = true)) ∧ ((Tr ((decide ((x11_a : Int) < ((Edit.kids e).length : Int))) = true))) ∧ (((bif (decide ((x11_a : Int) < ((Edit.kids e).length : Int))) then (((KidOf.at_ y_2) : Int) == x15_a) else false) = true → ((0 : Int) ≤ x11_a ∧ x11_a < ((Edit.kids e).length : Int)) ∧ (pre53 (y_3, y_4, ())) ∧ (mu53 (y_3, y_4, ()) < N) ∧ ((((!((doE true y_3 y_4).isSome)) = true → (Q .ret (⟨[(4, .ptr (.loc 4) 0), (5, .c (.bool false))], [((.loc 4), [.int .i64 0, .nils, .nils])], []⟩ : LSt U))) ∧ ((!((doE true y_3 y_4).isSome)) = false → ((InR ((x11_a : Int) + 1)) ∧ (((ml6_2_a.length + ([y_5]).length) * 56 ≤ 140737488355328) ∧ ((InR ((x15_a : Int) + 1)) ∧ (N1 (head83_1 e t x8 ml6_1 ((x11_a : Int) + 1) ((x15_a : Int) + 1) (ml6_2_a ++ ([y_5]))))))))))) ∧ ((bif (decide ((x11_a : Int) < ((Edit.kids e).length : Int))) then (((KidOf.at_ y_2) : Int) == x15_a) else false) = false → ((ml6_2_a.length + ([y_4]).length) * 56 ≤ 140737488355328) ∧ ((InR ((x15_a : Int) + 1)) ∧ (N1 (head83_1 e t x8 ml6_1 x11_a ((x15_a : Int) + 1) (ml6_2_a ++ ([y_4]))))))))) ∧ ((decide ((x15_a : Int) < x8)) = false → (Q .ret (⟨[(4, .ptr (.loc 4) 0), (5, .c (.bool true))], [((.loc 4), [.int .i64 1, .slice (U := U) .u64 ml6_1 (.own (.l 4 1)), .slice (U := U) .tree ml6_2_a (.own (.l 4 2))])], []⟩ : LSt U))))) :
    A83 N [1, 1, 1, 1, 1, 1, 1, 1, 1, 0, 1, 0, 0] (head83_1 e t x8 ml6_1 x11_a x15_a ml6_2_a) (AExit.then N1 (AExit.inBlock 2 (S83 N [1, 1, 1, 1, 1, 1, 1, 1, 1, 1] Q))) :=
  Eq.mpr (by kernel_rfl) (h _ (reTree_eq _) _ rfl _ (reEdit_eq _) _ (reTree_eq _) _ (reTree_eq _))
def Body83 (N : Nat) (e : Edit) (t : Tree)  : Prop := awp cfg (know (know83 N)) (drawOk cfg (know (know83 N))) Try.f83.ntmps lv83 (cd Try.f83 []) (entry (args83.can (e, t, ())) []) (EndsQ cfg Try.f83.ntmps Try.f83.results.toList (res83 (e, t, ())) [])
abbrev HB83 : Prop := ∀ (N : Nat) (e : Edit) (t : Tree) (_ : Unit), pre83 (e, t, ()) → mu83 (e, t, ()) < N + 1 → Body83 N e t

noncomputable def know84 (N : Nat) : List (FuncId × Fs U) := (53, fs args53 (fun a => [pre53 a, mu53 a < N]) res53) :: (83, fs args83 (fun a => [pre83 a, mu83 a < N]) res83) :: (84, fs args84 (fun a => [pre84 a, mu84 a < N]) res84) :: [(31, spec31), (36, spec36), (115, spec115), (116, spec116), (117, spec117)]
def lv84 : Lives U := fun i => match i with
  | 0 => ([(2, []), (3, []), (4, [])], [((.loc 2), []), ((.loc 3), []), ((.loc 4), [])])
  | 1 => ([(2, []), (3, []), (4, []), (18, [])], [((.loc 2), []), ((.loc 3), []), ((.loc 4), [])])
  | 2 => ([(4, []), (5, [])], [((.loc 4), [])])
  | 3 => ([(2, []), (3, []), (4, []), (6, [])], [((.loc 2), []), ((.loc 3), []), ((.loc 4), []), ((.loc 6), [])])
  | 4 => ([(2, []), (3, []), (4, []), (6, []), (7, [])], [((.loc 2), []), ((.loc 3), []), ((.loc 4), []), ((.loc 6), [])])
  | 5 => ([(2, []), (3, []), (4, []), (6, []), (7, []), (8, [])], [((.loc 2), []), ((.loc 3), []), ((.loc 4), []), ((.loc 6), [.any, .any, .own .tree])])
  | 6 => ([(2, []), (3, []), (4, []), (6, []), (7, []), (8, []), (27, [])], [((.loc 2), []), ((.loc 3), []), ((.loc 4), []), ((.loc 6), [])])
  | 7 => ([(2, []), (3, []), (4, []), (6, []), (7, []), (8, [])], [((.loc 2), []), ((.loc 3), []), ((.loc 4), []), ((.loc 6), [.any, .any, .own .tree])])
  | 8 => ([(2, []), (3, []), (4, []), (6, []), (7, []), (8, []), (9, [])], [((.loc 2), []), ((.loc 3), []), ((.loc 4), []), ((.loc 6), []), ((.loc 9), [])])
  | 9 => ([(2, []), (3, []), (4, []), (6, []), (7, []), (8, []), (9, []), (10, [])], [((.loc 2), []), ((.loc 3), []), ((.loc 4), []), ((.loc 6), [.any, .any, .own .tree]), ((.loc 9), [])])
  | 10 => ([(2, []), (3, []), (4, []), (6, []), (7, []), (8, []), (9, []), (10, []), (43, [])], [((.loc 2), []), ((.loc 3), []), ((.loc 4), []), ((.loc 6), []), ((.loc 9), [])])
  | 11 => ([(2, []), (3, []), (4, []), (6, []), (7, []), (8, []), (9, []), (10, [])], [((.loc 2), []), ((.loc 3), []), ((.loc 4), []), ((.loc 6), [.any, .any, .own .tree]), ((.loc 9), [])])
  | 12 => ([(2, []), (3, []), (4, []), (6, []), (7, []), (8, []), (9, []), (10, []), (50, [])], [((.loc 2), []), ((.loc 3), []), ((.loc 4), []), ((.loc 6), []), ((.loc 9), [])])
  | 13 => ([(4, []), (5, [])], [((.loc 4), [])])
  | 14 => ([(2, []), (3, []), (4, []), (6, []), (7, []), (8, []), (9, []), (10, [])], [((.loc 2), []), ((.loc 3), []), ((.loc 4), []), ((.loc 6), []), ((.loc 9), [])])
  | 15 => ([(2, []), (3, []), (4, []), (6, []), (7, []), (8, []), (9, []), (10, [])], [((.loc 2), []), ((.loc 3), []), ((.loc 4), []), ((.loc 6), []), ((.loc 9), [])])
  | 16 => ([(2, []), (3, []), (4, []), (6, []), (7, []), (8, []), (9, []), (11, [])], [((.loc 2), []), ((.loc 3), []), ((.loc 4), []), ((.loc 6), [.any, .any, .own .tree]), ((.loc 9), [])])
  | 17 => ([(2, []), (3, []), (4, []), (6, []), (7, []), (8, []), (9, []), (11, []), (68, [])], [((.loc 2), []), ((.loc 3), []), ((.loc 4), []), ((.loc 6), []), ((.loc 9), [])])
  | 18 => ([(2, []), (3, []), (4, []), (6, []), (7, []), (8, []), (9, []), (11, [])], [((.loc 2), []), ((.loc 3), []), ((.loc 4), []), ((.loc 6), [.any, .any, .own .tree]), ((.loc 9), [])])
  | 19 => ([(2, []), (3, []), (4, []), (6, []), (7, []), (8, []), (9, []), (11, []), (73, [])], [((.loc 2), []), ((.loc 3), []), ((.loc 4), []), ((.loc 6), []), ((.loc 9), [])])
  | 20 => ([(2, []), (3, []), (4, []), (6, []), (7, []), (8, []), (9, []), (11, [])], [((.loc 2), []), ((.loc 3), []), ((.loc 4), []), ((.loc 6), []), ((.loc 9), [])])
  | 21 => ([(2, []), (3, []), (4, []), (6, []), (7, []), (8, []), (9, []), (11, []), (102, [])], [((.loc 2), []), ((.loc 3), []), ((.loc 4), []), ((.loc 6), []), ((.loc 9), [])])
  | 22 => ([(4, []), (5, [])], [((.loc 4), [])])
  | 23 => ([(2, []), (3, []), (4, []), (6, []), (7, []), (8, []), (9, []), (11, [])], [((.loc 2), []), ((.loc 3), []), ((.loc 4), []), ((.loc 6), []), ((.loc 9), [])])
  | 24 => ([(2, []), (3, []), (4, []), (6, []), (7, []), (8, []), (9, []), (108, [])], [((.loc 2), []), ((.loc 3), []), ((.loc 4), []), ((.loc 6), []), ((.loc 9), [])])
  | 25 => ([(2, []), (3, []), (4, []), (6, []), (7, []), (8, []), (9, []), (113, [])], [((.loc 2), []), ((.loc 3), []), ((.loc 4), []), ((.loc 6), []), ((.loc 9), [])])
  | 26 => ([(4, []), (5, [])], [((.loc 4), [])])
  | 27 => ([(2, []), (3, []), (4, []), (6, []), (7, []), (8, []), (12, []), (13, [])], [((.loc 2), []), ((.loc 3), []), ((.loc 4), []), ((.loc 6), []), ((.loc 12), [])])
  | 28 => ([(2, []), (3, []), (4, []), (6, []), (7, []), (8, []), (12, []), (127, [])], [((.loc 2), []), ((.loc 3), []), ((.loc 4), []), ((.loc 6), []), ((.loc 12), [])])
  | 29 => ([(4, []), (5, [])], [((.loc 4), [])])
  | 30 => ([(2, []), (3, []), (4, []), (6, []), (7, []), (8, [])], [((.loc 2), []), ((.loc 3), []), ((.loc 4), []), ((.loc 6), [])])
  | 31 => ([(2, []), (3, []), (4, []), (6, []), (7, []), (8, [])], [((.loc 2), []), ((.loc 3), []), ((.loc 4), []), ((.loc 6), [])])
  | 32 => ([(4, []), (5, [])], [((.loc 4), [])])
  | _ => ([], [])
noncomputable def head84_0 (e : Edit) (t : Tree) (x7 : Int) (x8 : Int) (ml6_2 : List Tree) : LSt U := (⟨[(2, .ptr (.loc 2) 0), (3, .ptr (.loc 3) 0), (4, .ptr (.loc 4) 0), (6, .ptr (.loc 6) 0), (7, .c (.int .i64 x7)), (8, .c (.int .i64 x8))], [((.loc 2), [.int .i64 (Edit.kind e), .int .i64 (Tree.kind (Edit.old e)), .slice (U := U) .u64 (Tree.words (Edit.old e)) .unk, .slice (U := U) .tree (Tree.kids (Edit.old e)) .unk, .int .i64 (Tree.kind (Edit.new e)), .slice (U := U) .u64 (Tree.words (Edit.new e)) .unk, .slice (U := U) .tree (Tree.kids (Edit.new e)) .unk, .slice (U := U) .wedit (Edit.words e) .unk, .slice (U := U) .kid (Edit.kids e) .unk, .int .i64 (Edit.list e), .slice (U := U) .op (Edit.ops e) .unk]), ((.loc 3), [.int .i64 (Tree.kind t), .slice (U := U) .u64 (Tree.words t) .unk, .slice (U := U) .tree (Tree.kids t) .unk]), ((.loc 4), [.int .i64 0, .nils, .nils]), ((.loc 6), [.int .i64 (Tree.kind t), .nils, .slice (U := U) .tree ml6_2 (.own (.l 6 2))])], []⟩ : LSt U)
noncomputable def head84_1 (e : Edit) (t : Tree) (x8 : Int) (x7_a : Int) (x10_a : Int) (ml6_2_a : List Tree) : LSt U := (⟨[(2, .ptr (.loc 2) 0), (3, .ptr (.loc 3) 0), (4, .ptr (.loc 4) 0), (6, .ptr (.loc 6) 0), (7, .c (.int .i64 x7_a)), (8, .c (.int .i64 x8)), (9, .ptr (.loc 9) 0), (10, .c (.int .i64 x10_a))], [((.loc 2), [.int .i64 (Edit.kind e), .int .i64 (Tree.kind (Edit.old e)), .slice (U := U) .u64 (Tree.words (Edit.old e)) .unk, .slice (U := U) .tree (Tree.kids (Edit.old e)) .unk, .int .i64 (Tree.kind (Edit.new e)), .slice (U := U) .u64 (Tree.words (Edit.new e)) .unk, .slice (U := U) .tree (Tree.kids (Edit.new e)) .unk, .slice (U := U) .wedit (Edit.words e) .unk, .slice (U := U) .kid (Edit.kids e) .unk, .int .i64 (Edit.list e), .slice (U := U) .op (Edit.ops e) .unk]), ((.loc 3), [.int .i64 (Tree.kind t), .slice (U := U) .u64 (Tree.words t) .unk, .slice (U := U) .tree (Tree.kids t) .unk]), ((.loc 4), [.int .i64 0, .nils, .nils]), ((.loc 6), [.int .i64 (Tree.kind t), .nils, .slice (U := U) .tree ml6_2_a (.own (.l 6 2))]), ((.loc 9), [.int .i64 (OpOf.kind (List.getD (Edit.ops e) (Int.toNat x8) Op.nil)), .int .i64 (OpOf.n (List.getD (Edit.ops e) (Int.toNat x8) Op.nil)), .slice (U := U) .tree (OpOf.l (List.getD (Edit.ops e) (Int.toNat x8) Op.nil)) .unk, .int .i64 (Edit.kind (OpOf.e (List.getD (Edit.ops e) (Int.toNat x8) Op.nil))), .int .i64 (Tree.kind (Edit.old (OpOf.e (List.getD (Edit.ops e) (Int.toNat x8) Op.nil)))), .slice (U := U) .u64 (Tree.words (Edit.old (OpOf.e (List.getD (Edit.ops e) (Int.toNat x8) Op.nil)))) .unk, .slice (U := U) .tree (Tree.kids (Edit.old (OpOf.e (List.getD (Edit.ops e) (Int.toNat x8) Op.nil)))) .unk, .int .i64 (Tree.kind (Edit.new (OpOf.e (List.getD (Edit.ops e) (Int.toNat x8) Op.nil)))), .slice (U := U) .u64 (Tree.words (Edit.new (OpOf.e (List.getD (Edit.ops e) (Int.toNat x8) Op.nil)))) .unk, .slice (U := U) .tree (Tree.kids (Edit.new (OpOf.e (List.getD (Edit.ops e) (Int.toNat x8) Op.nil)))) .unk, .slice (U := U) .wedit (Edit.words (OpOf.e (List.getD (Edit.ops e) (Int.toNat x8) Op.nil))) .unk, .slice (U := U) .kid (Edit.kids (OpOf.e (List.getD (Edit.ops e) (Int.toNat x8) Op.nil))) .unk, .int .i64 (Edit.list (OpOf.e (List.getD (Edit.ops e) (Int.toNat x8) Op.nil))), .slice (U := U) .op (Edit.ops (OpOf.e (List.getD (Edit.ops e) (Int.toNat x8) Op.nil))) .unk])], []⟩ : LSt U)
noncomputable def head84_2 (e : Edit) (t : Tree) (x8 : Int) (x11_b : Int) (x7_b : Int) (ml6_2_b : List Tree) : LSt U := (⟨[(2, .ptr (.loc 2) 0), (3, .ptr (.loc 3) 0), (4, .ptr (.loc 4) 0), (6, .ptr (.loc 6) 0), (7, .c (.int .i64 x7_b)), (8, .c (.int .i64 x8)), (9, .ptr (.loc 9) 0), (11, .c (.int .i64 x11_b))], [((.loc 2), [.int .i64 (Edit.kind e), .int .i64 (Tree.kind (Edit.old e)), .slice (U := U) .u64 (Tree.words (Edit.old e)) .unk, .slice (U := U) .tree (Tree.kids (Edit.old e)) .unk, .int .i64 (Tree.kind (Edit.new e)), .slice (U := U) .u64 (Tree.words (Edit.new e)) .unk, .slice (U := U) .tree (Tree.kids (Edit.new e)) .unk, .slice (U := U) .wedit (Edit.words e) .unk, .slice (U := U) .kid (Edit.kids e) .unk, .int .i64 (Edit.list e), .slice (U := U) .op (Edit.ops e) .unk]), ((.loc 3), [.int .i64 (Tree.kind t), .slice (U := U) .u64 (Tree.words t) .unk, .slice (U := U) .tree (Tree.kids t) .unk]), ((.loc 4), [.int .i64 0, .nils, .nils]), ((.loc 6), [.int .i64 (Tree.kind t), .nils, .slice (U := U) .tree ml6_2_b (.own (.l 6 2))]), ((.loc 9), [.int .i64 (OpOf.kind (List.getD (Edit.ops e) (Int.toNat x8) Op.nil)), .int .i64 (OpOf.n (List.getD (Edit.ops e) (Int.toNat x8) Op.nil)), .slice (U := U) .tree (OpOf.l (List.getD (Edit.ops e) (Int.toNat x8) Op.nil)) .unk, .int .i64 (Edit.kind (OpOf.e (List.getD (Edit.ops e) (Int.toNat x8) Op.nil))), .int .i64 (Tree.kind (Edit.old (OpOf.e (List.getD (Edit.ops e) (Int.toNat x8) Op.nil)))), .slice (U := U) .u64 (Tree.words (Edit.old (OpOf.e (List.getD (Edit.ops e) (Int.toNat x8) Op.nil)))) .unk, .slice (U := U) .tree (Tree.kids (Edit.old (OpOf.e (List.getD (Edit.ops e) (Int.toNat x8) Op.nil)))) .unk, .int .i64 (Tree.kind (Edit.new (OpOf.e (List.getD (Edit.ops e) (Int.toNat x8) Op.nil)))), .slice (U := U) .u64 (Tree.words (Edit.new (OpOf.e (List.getD (Edit.ops e) (Int.toNat x8) Op.nil)))) .unk, .slice (U := U) .tree (Tree.kids (Edit.new (OpOf.e (List.getD (Edit.ops e) (Int.toNat x8) Op.nil)))) .unk, .slice (U := U) .wedit (Edit.words (OpOf.e (List.getD (Edit.ops e) (Int.toNat x8) Op.nil))) .unk, .slice (U := U) .kid (Edit.kids (OpOf.e (List.getD (Edit.ops e) (Int.toNat x8) Op.nil))) .unk, .int .i64 (Edit.list (OpOf.e (List.getD (Edit.ops e) (Int.toNat x8) Op.nil))), .slice (U := U) .op (Edit.ops (OpOf.e (List.getD (Edit.ops e) (Int.toNat x8) Op.nil))) .unk])], []⟩ : LSt U)
noncomputable abbrev A84 (N : Nat) (p : List Nat) := awp cfg (know (know84 N)) (drawOk cfg (know (know84 N))) Try.f84.ntmps lv84 (cd Try.f84 p)
noncomputable abbrev S84 (N : Nat) (p : List Nat) := seqK cfg (know (know84 N)) (drawOk cfg (know (know84 N))) Try.f84.ntmps lv84 (cd Try.f84 p)
theorem vc84 (N : Nat) (e : Edit) (t : Tree) (Q : AExit → LSt U → Prop) (h : ((((((Tree.kind t) : Int) != (Edit.list e)) = true → (Q .ret (⟨[(4, .ptr (.loc 4) 0), (5, .c (.bool false))], [((.loc 4), [.int .i64 0, .nils, .nils])], []⟩ : LSt U))) ∧ ((((Tree.kind t) : Int) != (Edit.list e)) = false → (((LoopWp (A84 N [1, 1, 1, 1, 0, 1, 0, 0]) (head84_0 e t 0 0 ([])) (AExit.inBlock 0 (S84 N [1, 1, 1, 1, 1] Q))))))))) :
    A84 N [] (⟨[(0, .agg [.int .i64 (Edit.kind e), .int .i64 (Tree.kind (Edit.old e)), .slice (U := U) .u64 (Tree.words (Edit.old e)) .unk, .slice (U := U) .tree (Tree.kids (Edit.old e)) .unk, .int .i64 (Tree.kind (Edit.new e)), .slice (U := U) .u64 (Tree.words (Edit.new e)) .unk, .slice (U := U) .tree (Tree.kids (Edit.new e)) .unk, .slice (U := U) .wedit (Edit.words e) .unk, .slice (U := U) .kid (Edit.kids e) .unk, .int .i64 (Edit.list e), .slice (U := U) .op (Edit.ops e) .unk]), (1, .agg [.int .i64 (Tree.kind t), .slice (U := U) .u64 (Tree.words t) .unk, .slice (U := U) .tree (Tree.kids t) .unk])], [], []⟩ : LSt U) Q :=
  Eq.mpr (by kernel_rfl) h
theorem vc84_l0 (N : Nat) (e : Edit) (t : Tree) (x7 : Int) (x8 : Int) (ml6_2 : List Tree) (N0 : LSt U → Prop) (Q : AExit → LSt U → Prop) (h : (((decide ((x8 : Int) < ((Edit.ops e).length : Int))) = true → ((0 : Int) ≤ x8 ∧ x8 < ((Edit.ops e).length : Int)) ∧ ((LoopWp (A84 N [1, 1, 1, 1, 0, 1, 0, 0, 1, 0, 0, 1, 0, 1, 0, 0]) (head84_1 e t x8 x7 0 ml6_2) (AExit.inBlock 2 (S84 N [1, 1, 1, 1, 0, 1, 0, 0, 1, 0, 0, 1, 1] (AExit.inBlock 1 (S84 N [1, 1, 1, 1, 0, 1, 0, 0, 1, 1] (AExit.then N0 (AExit.inBlock 0 (S84 N [1, 1, 1, 1, 1] Q)))))))))) ∧ ((decide ((x8 : Int) < ((Edit.ops e).length : Int))) = false → (Q .ret (⟨[(4, .ptr (.loc 4) 0), (5, .c (.bool ((x7 : Int) == ((Tree.kids t).length : Int))))], [((.loc 4), [.int .i64 (Tree.kind t), .nils, .slice (U := U) .tree ml6_2 (.own (.l 4 2))])], []⟩ : LSt U))))) :
    A84 N [1, 1, 1, 1, 0, 1, 0, 0] (head84_0 e t x7 x8 ml6_2) (AExit.then N0 (AExit.inBlock 0 (S84 N [1, 1, 1, 1, 1] Q))) :=
  Eq.mpr (by kernel_rfl) h
theorem vc84_l1 (N : Nat) (e : Edit) (t : Tree) (x8 : Int) (x7_a : Int) (x10_a : Int) (ml6_2_a : List Tree) (N1 : LSt U → Prop) (N0 : LSt U → Prop) (Q : AExit → LSt U → Prop) (h : ∀ y_1, y_1 = (List.getD (Edit.ops e) (Int.toNat x8) Op.nil) → ∀ y_2, y_2 = ((List.getD (Tree.kids t) (Int.toNat x7_a) Tree.nil)) → (Tr ((decide ((x10_a : Int) < (OpOf.n y_1))) = true)) ∧ (Tr ((decide ((x10_a : Int) < (OpOf.n y_1))) = true)) ∧ ((Tr ((decide ((x10_a : Int) < (OpOf.n y_1))) = true))) ∧ (((bif (decide ((x10_a : Int) < (OpOf.n y_1))) then (((OpOf.kind y_1) : Int) == 0) else false) = true → (((decide ((((Tree.kids t).length : Int) : Int) ≤ x7_a)) = true → (Q .ret (⟨[(4, .ptr (.loc 4) 0), (5, .c (.bool false))], [((.loc 4), [.int .i64 0, .nils, .nils])], []⟩ : LSt U))) ∧ ((decide ((((Tree.kids t).length : Int) : Int) ≤ x7_a)) = false → ((0 : Int) ≤ x7_a ∧ x7_a < ((Tree.kids t).length : Int)) ∧ ((ml6_2_a.length + ([y_2]).length) * 56 ≤ 140737488355328) ∧ ((InR ((x7_a : Int) + 1)) ∧ ((InR ((x10_a : Int) + 1)) ∧ (N1 (head84_1 e t x8 ((x7_a : Int) + 1) ((x10_a : Int) + 1) (ml6_2_a ++ ([y_2]))))))))) ∧ ((bif (decide ((x10_a : Int) < (OpOf.n y_1))) then (((OpOf.kind y_1) : Int) == 0) else false) = false → (LoopWp (A84 N [1, 1, 1, 1, 0, 1, 0, 0, 1, 0, 0, 1, 1, 0, 1, 0, 0]) (head84_2 e t x8 0 x7_a ml6_2_a) (AExit.inBlock 4 (S84 N [1, 1, 1, 1, 0, 1, 0, 0, 1, 0, 0, 1, 1, 1] (AExit.inBlock 1 (S84 N [1, 1, 1, 1, 0, 1, 0, 0, 1, 1] (AExit.then N0 (AExit.inBlock 0 (S84 N [1, 1, 1, 1, 1] Q))))))))))) :
    A84 N [1, 1, 1, 1, 0, 1, 0, 0, 1, 0, 0, 1, 0, 1, 0, 0] (head84_1 e t x8 x7_a x10_a ml6_2_a) (AExit.then N1 (AExit.inBlock 2 (S84 N [1, 1, 1, 1, 0, 1, 0, 0, 1, 0, 0, 1, 1] (AExit.inBlock 1 (S84 N [1, 1, 1, 1, 0, 1, 0, 0, 1, 1] (AExit.then N0 (AExit.inBlock 0 (S84 N [1, 1, 1, 1, 1] Q)))))))) :=
  Eq.mpr (by kernel_rfl) (h _ rfl _ (reTree_eq _))
theorem vc84_l2 (N : Nat) (e : Edit) (t : Tree) (x8 : Int) (x11_b : Int) (x7_b : Int) (ml6_2_b : List Tree) (N2 : LSt U → Prop) (N0 : LSt U → Prop) (Q : AExit → LSt U → Prop) (h : ∀ y_1, y_1 = (List.getD (Edit.ops e) (Int.toNat x8) Op.nil) → ∀ y_2, y_2 = (List.getD (Tree.kids t) (Int.toNat x7_b) Tree.nil) → ∀ y_3, y_3 = (y_2) → ∀ y_4, y_4 = ((OpOf.e y_1)) → ∀ y_5, y_5 = (List.getD (OpOf.l y_1) (Int.toNat x11_b) Tree.nil) → ∀ y_6, y_6 = (y_5) → ∀ y_7, y_7 = ((orNil (doE true y_4 y_3))) → (((decide ((x11_b : Int) < ((OpOf.l y_1).length : Int))) = true → (((((OpOf.kind y_1) : Int) == 2) = true → ((0 : Int) ≤ x11_b ∧ x11_b < ((OpOf.l y_1).length : Int)) ∧ ((ml6_2_b.length + ([y_6]).length) * 56 ≤ 140737488355328) ∧ ((InR ((x11_b : Int) + 1)) ∧ (N2 (head84_2 e t x8 ((x11_b : Int) + 1) x7_b (ml6_2_b ++ ([y_6])))))) ∧ ((((OpOf.kind y_1) : Int) == 2) = false → (Tr ((!(decide ((((Tree.kids t).length : Int) : Int) ≤ x7_b))) = true)) ∧ (Tr ((!(decide ((((Tree.kids t).length : Int) : Int) ≤ x7_b))) = true)) ∧ (Tr ((!(decide ((((Tree.kids t).length : Int) : Int) ≤ x7_b))) = true)) ∧ ((!(decide ((((Tree.kids t).length : Int) : Int) ≤ x7_b))) = true → (0 : Int) ≤ x7_b ∧ x7_b < ((Tree.kids t).length : Int)) ∧ (Tr ((!(decide ((((Tree.kids t).length : Int) : Int) ≤ x7_b))) = true)) ∧ (Tr ((!(decide ((((Tree.kids t).length : Int) : Int) ≤ x7_b))) = true)) ∧ (Tr ((!(decide ((((Tree.kids t).length : Int) : Int) ≤ x7_b))) = true)) ∧ (Tr ((!(decide ((((Tree.kids t).length : Int) : Int) ≤ x7_b))) = true)) ∧ ((!(decide ((((Tree.kids t).length : Int) : Int) ≤ x7_b))) = true → (0 : Int) ≤ x11_b ∧ x11_b < ((OpOf.l y_1).length : Int)) ∧ (Tr ((!(decide ((((Tree.kids t).length : Int) : Int) ≤ x7_b))) = true)) ∧ (Tr ((!(decide ((((Tree.kids t).length : Int) : Int) ≤ x7_b))) = true)) ∧ (Tr ((!(decide ((((Tree.kids t).length : Int) : Int) ≤ x7_b))) = true)) ∧ ((!(decide ((((Tree.kids t).length : Int) : Int) ≤ x7_b))) = true → pre36 (y_3, y_6, ())) ∧ (Tr ((!(decide ((((Tree.kids t).length : Int) : Int) ≤ x7_b))) = true)) ∧ (((decide ((((Tree.kids t).length : Int) : Int) ≤ x7_b)) = false → (!(decide ((((Tree.kids t).length : Int) : Int) ≤ x7_b))) = true)) ∧ (((bif (decide ((((Tree.kids t).length : Int) : Int) ≤ x7_b)) then true else (!(sameT (normT y_3) (normT y_6)))) = true → (Q .ret (⟨[(4, .ptr (.loc 4) 0), (5, .c (.bool false))], [((.loc 4), [.int .i64 0, .nils, .nils])], []⟩ : LSt U))) ∧ ((bif (decide ((((Tree.kids t).length : Int) : Int) ≤ x7_b)) then true else (!(sameT (normT y_3) (normT y_6)))) = false → (InR ((x7_b : Int) + 1)) ∧ ((InR ((x11_b : Int) + 1)) ∧ (N2 (head84_2 e t x8 ((x11_b : Int) + 1) ((x7_b : Int) + 1) ml6_2_b)))))))) ∧ ((decide ((x11_b : Int) < ((OpOf.l y_1).length : Int))) = false → (((((OpOf.kind y_1) : Int) == 3) = true → (((decide ((((Tree.kids t).length : Int) : Int) ≤ x7_b)) = true → (Q .ret (⟨[(4, .ptr (.loc 4) 0), (5, .c (.bool false))], [((.loc 4), [.int .i64 0, .nils, .nils])], []⟩ : LSt U))) ∧ ((decide ((((Tree.kids t).length : Int) : Int) ≤ x7_b)) = false → ((0 : Int) ≤ x7_b ∧ x7_b < ((Tree.kids t).length : Int)) ∧ (pre53 (y_4, y_3, ())) ∧ (mu53 (y_4, y_3, ()) < N) ∧ ((((!((doE true y_4 y_3).isSome)) = true → (Q .ret (⟨[(4, .ptr (.loc 4) 0), (5, .c (.bool false))], [((.loc 4), [.int .i64 0, .nils, .nils])], []⟩ : LSt U))) ∧ ((!((doE true y_4 y_3).isSome)) = false → ((ml6_2_b.length + ([y_7]).length) * 56 ≤ 140737488355328) ∧ ((InR ((x7_b : Int) + 1)) ∧ ((InR ((x8 : Int) + 1)) ∧ (N0 (head84_0 e t ((x7_b : Int) + 1) ((x8 : Int) + 1) (ml6_2_b ++ ([y_7])))))))))))) ∧ ((((OpOf.kind y_1) : Int) == 3) = false → (InR ((x8 : Int) + 1)) ∧ (N0 (head84_0 e t x7_b ((x8 : Int) + 1) ml6_2_b))))))) :
    A84 N [1, 1, 1, 1, 0, 1, 0, 0, 1, 0, 0, 1, 1, 0, 1, 0, 0] (head84_2 e t x8 x11_b x7_b ml6_2_b) (AExit.then N2 (AExit.inBlock 4 (S84 N [1, 1, 1, 1, 0, 1, 0, 0, 1, 0, 0, 1, 1, 1] (AExit.inBlock 1 (S84 N [1, 1, 1, 1, 0, 1, 0, 0, 1, 1] (AExit.then N0 (AExit.inBlock 0 (S84 N [1, 1, 1, 1, 1] Q)))))))) :=
  Eq.mpr (by kernel_rfl) (h _ rfl _ rfl _ (reTree_eq _) _ (reEdit_eq _) _ rfl _ (reTree_eq _) _ (reTree_eq _))
def Body84 (N : Nat) (e : Edit) (t : Tree)  : Prop := awp cfg (know (know84 N)) (drawOk cfg (know (know84 N))) Try.f84.ntmps lv84 (cd Try.f84 []) (entry (args84.can (e, t, ())) []) (EndsQ cfg Try.f84.ntmps Try.f84.results.toList (res84 (e, t, ())) [])
abbrev HB84 : Prop := ∀ (N : Nat) (e : Edit) (t : Tree) (_ : Unit), pre84 (e, t, ()) → mu84 (e, t, ()) < N + 1 → Body84 N e t

theorem make53_ (c31 : Contract Try.prog cfg 31 spec31) (c36 : Contract Try.prog cfg 36 spec36) (c115 : Contract Try.prog cfg 115 spec115) (c116 : Contract Try.prog cfg 116 spec116) (c117 : Contract Try.prog cfg 117 spec117) (b53 : HB53) (b83 : HB83) (b84 : HB84) :
    Contract Try.prog cfg 53 spec53 ∧ Contract Try.prog cfg 83 spec83 ∧ Contract Try.prog cfg 84 spec84 := by
  have h53 : ∃ fn, Try.prog.funcs[(53 : FuncId)]? = some fn ∧ fn.body.isSome = true ∧ (fn.name == "runtime.NumGoroutine") = false := ⟨Try.f53, Try.func53, rfl, rfl⟩
  have h83 : ∃ fn, Try.prog.funcs[(83 : FuncId)]? = some fn ∧ fn.body.isSome = true ∧ (fn.name == "runtime.NumGoroutine") = false := ⟨Try.f83, Try.func83, rfl, rfl⟩
  have h84 : ∃ fn, Try.prog.funcs[(84 : FuncId)]? = some fn ∧ fn.body.isSome = true ∧ (fn.name == "runtime.NumGoroutine") = false := ⟨Try.f84, Try.func84, rfl, rfl⟩
  have key : ∀ N, Contract Try.prog cfg 53 (fs args53 (fun a => [pre53 a, mu53 a < N]) res53) ∧ Contract Try.prog cfg 83 (fs args83 (fun a => [pre83 a, mu83 a < N]) res83) ∧ Contract Try.prog cfg 84 (fs args84 (fun a => [pre84 a, mu84 a < N]) res84) := by
    intro N
    induction N with
    | zero => exact ⟨fs_zero h53, fs_zero h83, fs_zero h84⟩
    | succ N ih =>
      have kn := know_ok (l := know53 N) ⟨ih.1, ih.2.1, ih.2.2, c31, c36, c115, c116, c117, trivial⟩
      exact ⟨contract_fs (Γ := know (know53 N)) cfgOk rfl kn lv53 Try.func53 rfl rfl (fun a => by show 2 ≤ _; decide) (fun ⟨e, t, _⟩ h => b53 N e t () h.1 h.2.1),
        contract_fs (Γ := know (know53 N)) cfgOk rfl kn lv83 Try.func83 rfl rfl (fun a => by show 2 ≤ _; decide) (fun ⟨e, t, _⟩ h => b83 N e t () h.1 h.2.1),
        contract_fs (Γ := know (know53 N)) cfgOk rfl kn lv84 Try.func84 rfl rfl (fun a => by show 2 ≤ _; decide) (fun ⟨e, t, _⟩ h => b84 N e t () h.1 h.2.1)⟩
  exact ⟨fs_less h53 fun N => (key N).1, fs_less h83 fun N => (key N).2.1, fs_less h84 fun N => (key N).2.2⟩
end Go.AM.Ytlahjnelghpmeaa

namespace Go.AM.Ytlahjnelghpmeaa
open Go.AM Go.Proofs

theorem c1071 : Contract Try.prog cfg 71 spec1071 := by
  refine make1071 ?_
  intro l _ hp
  simp only [pre1071] at hp
  refine vc1071 _ _ ⟨fun h => ?_, fun _ => ⟨by simp only [List.length_nil]; omega, ?_⟩⟩
  · subst h
    simp only [resL1071]
    (repeat' (first | exact trivial | exact rfl | refine And.intro ?_ ?_))
  · simp only [resL1071]
    (repeat' (first | exact trivial | exact rfl | refine And.intro ?_ ?_))

theorem c126 : Contract Try.prog cfg 126 spec126 := by
  refine make126 ?_
  intro l _ hp
  simp only [pre126] at hp
  refine vc126 _ _ ⟨fun h => ?_, fun _ => ⟨by simp only [List.length_nil]; omega, ?_⟩⟩
  · subst h
    simp only [resL126]
    (repeat' (first | exact trivial | exact rfl | refine And.intro ?_ ?_))
  · simp only [resL126]
    (repeat' (first | exact trivial | exact rfl | refine And.intro ?_ ?_))

theorem setPad_in {α : Type} (z : α) {l : List α} {i : Nat} (h : i < l.length) (x : α) : setPad z l i x = l.set i x := by
  simp only [setPad]; rw [show i + 1 - l.length = 0 by omega]; simp
theorem setPad_snoc {α : Type} (z : α) {l : List α} {i : Nat} (h : l.length ≤ i) (x : α) : setPad z (l ++ [z]) i x = setPad z l i x := by
  simp only [setPad, List.length_append, List.length_singleton, List.append_assoc]
  rw [show i + 1 - l.length = (i + 1 - (l.length + 1)) + 1 by omega, List.replicate_succ]
  rfl
theorem massKT (t : Tree) : t.words.length + massK t.kids + 1 = mass t := by obtain ⟨k, w, ks⟩ := t; simp only [mass, Tree.words_mk, Tree.kids_mk]; omega
theorem rng_at {t : Tree} (h : rng t) : isI t.kind ∧ (∀ x ∈ t.words, isW x) ∧ rngK t.kids := by obtain ⟨k, w, ks⟩ := t; exact h
theorem rng_kid {ks : List Tree} (h : rngK ks) (i : Nat) : rng (ks.getD i Tree.nil) := by
  by_cases hi : i < ks.length
  · exact rngK_mem h (mem_getD hi _)
  · rw [List.getD_eq_getElem?_getD, List.getElem?_eq_none (by omega)]
    refine ⟨by decide, by simp [Tree.nil], trivial⟩
theorem mass_kid (ks : List Tree) (i : Nat) : mass (ks.getD i Tree.nil) ≤ massK ks + 1 := by
  by_cases hi : i < ks.length
  · have := massK_mem (mem_getD hi Tree.nil); omega
  · rw [List.getD_eq_getElem?_getD, List.getElem?_eq_none (by omega)]
    simp [Tree.nil, mass, massK]
theorem kidAt_pos (t : Tree) {i : Int} (h : 0 ≤ i) : kidAt t i = t.kids.getD i.toNat Tree.nil := by unfold kidAt; rw [if_neg (by omega)]
theorem wordAt_pos (t : Tree) {i : Int} (h : 0 ≤ i) : wordAt t i = t.words.getD i.toNat 0 := by unfold wordAt; rw [if_neg (by omega)]
theorem word_in {l : List Int} (h : ∀ x ∈ l, isW x) (i : Nat) : isW (l.getD i 0) := by
  by_cases hi : i < l.length
  · exact h _ (mem_getD hi _)
  · rw [List.getD_eq_getElem?_getD, List.getElem?_eq_none (by omega)]; show 0 ≤ (0 : Int) ∧ (0 : Int) < _; omega

theorem b82 : HB82 := by
  intro N e t _ hp hN
  simp only [pre82, mu82] at hp hN
  obtain ⟨⟨p1, p2, d, p3⟩, p4, p5⟩ := hp
  have h1 := len_massE e
  have h2 := rngE_at p2
  have hd := doE_at false e t
  rw [nrD_false] at hd
  refine vc82 _ _ _ _ ?_
  rintro y1 hy1 y2 hy2 y3 hy3
  subst hy1 hy2 hy3
  (simp only [vcT, bif_tl, bif_fr, bif_tlf, bif_frf, Bool.not_eq_true', Bool.not_eq_false', decide_eq_true_eq, decide_eq_false_iff_not, beq_iff_eq, beq_eq_false_iff_ne, bne_iff_ne, ne_eq, bne_eq_false_iff_eq, Bool.or_eq_true, Bool.and_eq_true, Bool.or_eq_false_iff, Bool.and_eq_false_imp])
  refine ⟨fun hk => ?_, fun hk => ⟨fun hk1 => ⟨by simp only [pre34]; omega, ?_⟩, fun hk1 => ⟨fun hk2 => ⟨by simp only [pre113]; exact ⟨hk2, ⟨p1, p2, d, p3⟩, p4, p5⟩, by simp only [mu113]; omega, ?_⟩, fun hk2 => ⟨fun hk3 => ⟨by simp only [pre114]; exact ⟨hk3, ⟨p1, p2, d, p3⟩, p4, p5⟩, by simp only [mu114]; omega, ?_⟩, fun hk3 => ?_⟩⟩⟩⟩
  · rw [if_pos hk] at hd
    simp only [res82, oneT, if_pos hk, hd]
    (repeat' (first | exact trivial | exact rfl | refine And.intro ?_ ?_))
  · rw [if_neg hk, if_pos hk1] at hd
    simp only [res82, oneT, if_neg hk, if_pos hk1, hd]
    cases sameT (normT y1.old) (normT y2) <;> (repeat' (first | exact trivial | exact rfl | refine And.intro ?_ ?_))
  · rw [if_neg hk, if_neg hk1, if_pos hk2] at hd
    simp only [res82, oneT, if_neg hk, if_neg hk1, if_pos hk2, hd]
    (repeat' (first | exact trivial | exact rfl | refine And.intro ?_ ?_))
  · rw [if_neg hk, if_neg hk1, if_neg hk2, if_pos hk3] at hd
    simp only [res82, oneT, if_neg hk, if_neg hk1, if_neg hk2, if_pos hk3, hd]
    have e2 : (if y2.kind = y1.list then (endD (doOs false y1.ops y2.kids [])).map fun b => Tree.mk y1.list [] b else none).isSome = (endD (lstD false y1 y2)).isSome := by
      unfold lstD
      split
      · cases endD (doOs false y1.ops y2.kids []) <;> rfl
      · rfl
    rw [e2]
    (repeat' (first | exact trivial | exact rfl | refine And.intro ?_ ?_))
  · rw [if_neg hk, if_neg hk1, if_neg hk2, if_neg hk3] at hd
    simp only [res82, oneT, if_neg hk, if_neg hk1, if_neg hk2, if_neg hk3, hd]
    (repeat' (first | exact trivial | exact rfl | refine And.intro ?_ ?_))

theorem b113 : HB113 := by
  intro N e t _ hp hN
  simp only [pre113, mu113] at hp hN
  obtain ⟨k2, ⟨p1, p2, d, p3⟩, p4, p5⟩ := hp
  have h1 := len_massE e
  have h2 := massKs_len e.kids
  have h3 := massKT t
  have h4 := massK_len t.kids
  have r2 := rngE_at p2
  have rt := rng_at p5
  have ri := rightE_all p3
  refine vc113 _ _ _ _ ?_
  (simp only [vcT, bif_tl, bif_fr, bif_tlf, bif_frf, Bool.not_eq_true', Bool.not_eq_false', decide_eq_true_eq, decide_eq_false_iff_not, beq_iff_eq, beq_eq_false_iff_ne, bne_iff_ne, ne_eq, bne_eq_false_iff_eq, Bool.or_eq_true, Bool.and_eq_true, Bool.or_eq_false_iff, Bool.and_eq_false_imp])
  have no : strD false e t = none → EndsQ cfg Try.f113.ntmps Try.f113.results.toList (res113 (e, t, ())) [] .ret (⟨[(4, .ptr (.loc 4) 0), (5, .c (.bool false))], [((.loc 4), [.int .i64 0, .nils, .nils])], []⟩ : LSt U) := by
    intro hs
    simp only [res113, hs]
    (repeat' (first | exact trivial | exact rfl | refine And.intro ?_ ?_))
  refine ⟨fun hk => no (by unfold strD; rw [if_neg hk]), fun hk => ?_⟩
  have hk : t.kind = 1 := by simpa using hk
  refine ⟨by simp only [pre1071]; omega, by simp only [pre126]; omega, ?_⟩
  refine loop_rule (ι := Int × List Int) (fun s => head113_0 e t s.1 s.2) (fun s => 0 ≤ s.1 ∧ s.1 ≤ e.words.length ∧ wsD t.words (e.words.drop s.1.toNat) s.2 = wsD t.words e.words t.words ∧ s.2.length ≤ t.words.length + 65536) (fun s => ((e.words.length : Int) - s.1).toNat) (0, t.words) rfl ⟨by simp, by simp, by simp, by simp⟩ ?_
  rintro ⟨i, out⟩ ⟨f1, f2, f3, f4⟩
  dsimp only at f1 f2 f3 f4
  refine vc113_l0 _ _ _ _ _ _ _ ?_
  rintro y1 hy1 y2 hy2
  subst hy1
  (simp only [vcT, bif_tl, bif_fr, bif_tlf, bif_frf, Bool.not_eq_true', Bool.not_eq_false', decide_eq_true_eq, decide_eq_false_iff_not, beq_iff_eq, beq_eq_false_iff_ne, bne_iff_ne, ne_eq, bne_eq_false_iff_eq, Bool.or_eq_true, Bool.and_eq_true, Bool.or_eq_false_iff, Bool.and_eq_false_imp])
  refine ⟨fun hi => ?_, fun hi => ?_⟩
  · have hmem := mem_getD (l := e.words) (i := i.toNat) (by omega) (WEdit.mk 0 0 0 0)
    rw [dropI f1 hi (WEdit.mk 0 0 0 0), ← hy2] at f3
    rw [← hy2] at hmem
    have hw := wordsOk_all ri.words y2 hmem
    obtain ⟨g1, g2, g3, g4⟩ := r2.2.2.2.1 y2 hmem
    have hat : wordAt y1 y2.at_ = y1.words.getD y2.at_.toNat 0 := wordAt_pos y1 (by omega)
    have hwi := word_in rt.2.1 y2.at_.toNat
    rw [wsD] at f3
    rw [hat]
    unfold isW at g3 g4 hwi
    refine ⟨⟨f1, hi⟩, by simp only [pre73], by simp only [pre127]; omega, fun hne => no ?_, fun heq => ?_⟩
    · rw [if_neg hne] at f3
      unfold strD
      rw [if_pos hk, ← f3]
      rfl
    · have heq : mix 0 (y1.words.getD y2.at_.toNat 0) y2.mask = y2.old := by simpa using heq
      rw [if_pos heq] at f3
      refine loop_rule (ι := List Int) (fun s => head113_1 e y1 i s) (fun s => (∀ v, setPad 0 s y2.at_.toNat v = setPad 0 out y2.at_.toNat v) ∧ s.length ≤ y1.words.length + 65536) (fun s => (y2.at_ + 1 - s.length).toNat) out rfl ⟨fun v => rfl, f4⟩ ?_
      rintro s ⟨q1, q2⟩
      refine vc113_l1 _ _ _ _ _ _ _ _ ?_
      (simp only [Tree.eta, Edit.eta, Tree.kind_mk, Tree.words_mk, Tree.kids_mk])
      rw [← hy2, hat]
      (simp only [vcT, bif_tl, bif_fr, bif_tlf, bif_frf, Bool.not_eq_true', Bool.not_eq_false', decide_eq_true_eq, decide_eq_false_iff_not, beq_iff_eq, beq_eq_false_iff_ne, bne_iff_ne, ne_eq, bne_eq_false_iff_eq, Bool.or_eq_true, Bool.and_eq_true, Bool.or_eq_false_iff, Bool.and_eq_false_imp])
      refine ⟨fun hl => ⟨by simp; omega, s ++ [0], rfl, ⟨fun v => ?_, by simp; omega⟩, by simp; omega⟩, fun hl => ?_⟩
      · rw [setPad_snoc 0 (by omega), q1]
      · have hl : y2.at_ < s.length := by omega
        refine ⟨by simp only [pre127]; omega, by omega, by omega, by unfold InR; omega, (i + 1, s.set y2.at_.toNat (mix (y1.words.getD y2.at_.toNat 0) y2.new y2.mask)), rfl, ⟨by dsimp only; omega, by dsimp only; omega, ?_, by simp only [List.length_set]; omega⟩, by dsimp only; omega⟩
        dsimp only
        rw [← f3, ← setPad_in 0 (by omega), q1]
  · rw [List.drop_of_length_le (by omega), wsD] at f3
    refine loop_rule (ι := Int × List Tree) (fun s => head113_2 e y1 out s.1 s.2) (fun s => 0 ≤ s.1 ∧ s.1 ≤ e.kids.length ∧ doKs false y1.kids (e.kids.drop s.1.toNat) s.2 = doKs false y1.kids e.kids y1.kids ∧ s.2.length ≤ y1.kids.length + 65536) (fun s => ((e.kids.length : Int) - s.1).toNat) (0, y1.kids) rfl ⟨by simp, by simp, by simp, by simp⟩ ?_
    rintro ⟨j, ks⟩ ⟨e1, e2, e3, e4⟩
    dsimp only at e1 e2 e3 e4
    refine vc113_l2 _ _ _ _ _ _ _ _ ?_
    rintro y1 hy1 y2 hy2 y3 hy3 y4 hy4
    subst hy1
    (simp only [vcT, bif_tl, bif_fr, bif_tlf, bif_frf, Bool.not_eq_true', Bool.not_eq_false', decide_eq_true_eq, decide_eq_false_iff_not, beq_iff_eq, beq_eq_false_iff_ne, bne_iff_ne, ne_eq, bne_eq_false_iff_eq, Bool.or_eq_true, Bool.and_eq_true, Bool.or_eq_false_iff, Bool.and_eq_false_imp])
    refine ⟨fun hj => ?_, fun hj => ?_⟩
    · have hmem := mem_getD (l := e.kids) (i := j.toNat) (by omega) (KidOf.mk 0 Edit.nil)
      rw [dropI e1 hj (KidOf.mk 0 Edit.nil), ← hy2] at e3
      rw [← hy2] at hmem
      have hk2 := rightKs_all ri.kids y2 hmem
      have hm := massKs_mem hmem
      have hr := (rngKs_mem r2.2.2.2.2.2.1 hmem).2
      have hat : kidAt y1 y2.at_ = y1.kids.getD y2.at_.toNat Tree.nil := kidAt_pos y1 (by omega)
      rw [hat] at hy4
      have hm4 := mass_kid y1.kids y2.at_.toNat
      have hr4 := rng_kid rt.2.2 y2.at_.toNat
      rw [doKs, doKid_at, ← hy4, ← hy3] at e3
      rw [← hy4] at hm4 hr4
      rw [← hy3] at hm hr hk2
      refine ⟨⟨e1, hj⟩, by simp only [pre74], by simp only [pre82]; exact ⟨⟨by omega, hr, _, hk2.2⟩, by omega, hr4⟩, by simp only [mu82]; omega, fun hne => no ?_, fun heq => ?_⟩
      · have hne : doE false y3 y4 = none := by simpa using hne
        rw [hne] at e3
        unfold strD
        rw [if_pos hk, ← f3, ← e3]
        rfl
      · obtain ⟨u, hu⟩ := Option.isSome_iff_exists.1 heq
        rw [hu, Option.bind_some] at e3
        refine loop_rule (ι := List Tree) (fun s => head113_3 e y1 out j s) (fun s => (∀ v, setPad Tree.nil s y2.at_.toNat v = setPad Tree.nil ks y2.at_.toNat v) ∧ s.length ≤ y1.kids.length + 65536) (fun s => (y2.at_ + 1 - s.length).toNat) ks rfl ⟨fun v => rfl, e4⟩ ?_
        rintro s ⟨q1, q2⟩
        refine vc113_l3 _ _ _ _ _ _ _ _ _ ?_
        rintro z1 hz1 z2 hz2 z3 hz3 z4 hz4 z5 hz5
        rw [← hy2] at hz2
        subst hz1 hz2
        rw [← hy3] at hz3
        subst hz3
        rw [hat, ← hy4] at hz4
        subst hz4
        rw [oneT_some hu] at hz5
        subst hz5
        (simp only [vcT, bif_tl, bif_fr, bif_tlf, bif_frf, Bool.not_eq_true', Bool.not_eq_false', decide_eq_true_eq, decide_eq_false_iff_not, beq_iff_eq, beq_eq_false_iff_ne, bne_iff_ne, ne_eq, bne_eq_false_iff_eq, Bool.or_eq_true, Bool.and_eq_true, Bool.or_eq_false_iff, Bool.and_eq_false_imp])
        refine ⟨fun hl => ⟨by simp; omega, s ++ [Tree.nil], rfl, ⟨fun v => ?_, by simp; omega⟩, by simp; omega⟩, fun hl => ?_⟩
        · rw [setPad_snoc Tree.nil (by omega), q1]
        · have hl : z2.at_ < s.length := by omega
          refine ⟨by omega, by omega, by unfold InR; omega, (j + 1, s.set z2.at_.toNat z5), rfl, ⟨by dsimp only; omega, by dsimp only; omega, ?_, by simp only [List.length_set]; omega⟩, by dsimp only; omega⟩
          dsimp only
          rw [← e3, ← setPad_in Tree.nil (by omega), q1]
    · rw [List.drop_of_length_le (by omega), doKs] at e3
      have hs : strD false e y1 = some (.mk 1 out ks) := by
        unfold strD
        rw [if_pos hk, ← f3, ← e3]
        rfl
      simp only [res113, hs]
      (repeat' (first | exact trivial | exact rfl | refine And.intro ?_ ?_))

theorem doOs_cons (r : Bool) (o : Op) (s : List Op) (rest out : List Tree) : doOs r (o :: s) rest out = (doOp r o rest out).bind fun x => doOs r s x.2 x.1 := by rw [doOs]
theorem rngK_drop {ks : List Tree} (h : rngK ks) (n : Nat) : rngK (ks.drop n) := by
  induction n generalizing ks with
  | zero => exact h
  | succ n ih => cases ks with
    | nil => exact h
    | cons a r => exact ih h.2
theorem b114 : HB114 := by
  intro N e t _ hp hN
  simp only [pre114, mu114] at hp hN
  obtain ⟨k3, ⟨p1, p2, d, p3⟩, p4, p5⟩ := hp
  have h1 := len_massE e
  have h2 := massOs_len e.ops
  have h3 := massKT t
  have h4 := massK_len t.kids
  have r2 := rngE_at p2
  have rt := rng_at p5
  have ri := rightE_all p3
  refine vc114 _ _ _ _ ?_
  (simp only [vcT, bif_tl, bif_fr, bif_tlf, bif_frf, Bool.not_eq_true', Bool.not_eq_false', decide_eq_true_eq, decide_eq_false_iff_not, beq_iff_eq, beq_eq_false_iff_ne, bne_iff_ne, ne_eq, bne_eq_false_iff_eq, Bool.or_eq_true, Bool.and_eq_true, Bool.or_eq_false_iff, Bool.and_eq_false_imp])
  have no : lstD false e t = none → EndsQ cfg Try.f114.ntmps Try.f114.results.toList (res114 (e, t, ())) [] .ret (⟨[(4, .ptr (.loc 4) 0), (5, .c (.bool false))], [((.loc 4), [.int .i64 0, .nils, .nils])], []⟩ : LSt U) := by
    intro hs
    simp only [res114, hs]
    (repeat' (first | exact trivial | exact rfl | refine And.intro ?_ ?_))
  refine ⟨fun hk => no (by unfold lstD; rw [if_neg hk]), fun hk => ?_⟩
  have hk : t.kind = e.list := by simpa using hk
  have hl0 : lstD false e t = doOs false e.ops t.kids [] := by unfold lstD; rw [if_pos hk]
  refine loop_rule (ι := Int × List Tree × List Tree) (fun s => head114_0 e t s.1 s.2.2 s.2.1)
    (fun s => 0 ≤ s.1 ∧ s.1 ≤ e.ops.length ∧ doOs false (e.ops.drop s.1.toNat) s.2.2 s.2.1 = lstD false e t ∧ s.2.1.length + s.2.2.length + massOs (e.ops.drop s.1.toNat) ≤ t.kids.length + massOs e.ops ∧ massK s.2.2 ≤ massK t.kids ∧ rngK s.2.2)
    (fun s => ((e.ops.length : Int) - s.1).toNat) (0, [], t.kids) rfl ⟨by simp, by simp, by simp [hl0], by simp, by simp, rt.2.2⟩ ?_
  rintro ⟨i, out, rest⟩ ⟨f1, f2, f3, f4, f5, f6⟩
  dsimp only at f1 f2 f3 f4 f5 f6
  refine vc114_l0 _ _ _ _ _ _ _ _ ?_
  rintro y1 hy1
  (simp only [vcT, bif_tl, bif_fr, bif_tlf, bif_frf, Bool.not_eq_true', Bool.not_eq_false', decide_eq_true_eq, decide_eq_false_iff_not, beq_iff_eq, beq_eq_false_iff_ne, bne_iff_ne, ne_eq, bne_eq_false_iff_eq, Bool.or_eq_true, Bool.and_eq_true, Bool.or_eq_false_iff, Bool.and_eq_false_imp])
  refine ⟨fun hi => ?_, fun hi => ?_⟩
  · have hmem := mem_getD (l := e.ops) (i := i.toNat) (by omega) Op.nil
    rw [dropI f1 hi Op.nil, ← hy1] at f3 f4
    rw [← hy1] at hmem
    have hr := Go.AM.rightOs_mem ri.ops y1 hmem
    have hm := massOs_mem hmem
    have hme := massOp_e y1
    have hro := rngOp_e (rngOs_mem r2.2.2.2.2.2.2 hmem)
    have hml := massK_len y1.l
    simp only [massOs] at f4
    rw [doOs_cons, doOp_at] at f3
    have go : ∀ (x : List Tree) (m : List Tree) (v : V U) N0 Q', doOs false (e.ops.drop (i + 1).toNat) x m = lstD false e t → m.length + x.length + massOs (e.ops.drop (i + 1).toNat) ≤ t.kids.length + massOs e.ops → massK x ≤ massK t.kids → rngK x →
        (∀ s2, s2 = head114_0 e t (i + 1) x m → N0 s2) → A114 N [1, 1, 1, 1, 0, 1, 0, 0, 1, 1, 1] (head114_1 e t i x m v) (AExit.then N0 (AExit.inBlock 0 (S114 N [1, 1, 1, 1, 1] Q'))) := by
      intro x m v N0 Q' a1 a2 a3 a4 a5
      exact vc114_c1 _ _ _ _ _ _ _ _ _ ⟨by unfold InR; omega, a5 _ rfl⟩
    have fin : ∀ (x m : List Tree), doOs false (e.ops.drop (i + 1).toNat) x m = lstD false e t → m.length + x.length + massOs (e.ops.drop (i + 1).toNat) ≤ t.kids.length + massOs e.ops → massK x ≤ massK t.kids → rngK x → ∀ s2, s2 = head114_0 e t (i + 1) x m →
        ∃ j : Int × List Tree × List Tree, s2 = head114_0 e t j.1 j.2.2 j.2.1 ∧ (0 ≤ j.1 ∧ j.1 ≤ e.ops.length ∧ doOs false (e.ops.drop j.1.toNat) j.2.2 j.2.1 = lstD false e t ∧ j.2.1.length + j.2.2.length + massOs (e.ops.drop j.1.toNat) ≤ t.kids.length + massOs e.ops ∧ massK j.2.2 ≤ massK t.kids ∧ rngK j.2.2) ∧ ((e.ops.length : Int) - j.1).toNat < ((e.ops.length : Int) - i).toNat := by
      rintro x m a1 a2 a3 a4 _ rfl
      exact ⟨(i + 1, m, x), rfl, ⟨by dsimp only; omega, by dsimp only; omega, a1, a2, a3, a4⟩, by dsimp only; omega⟩
    have r1 := rightOp_all hr
    have ht : ∀ n : Nat, (rest.take n).length ≤ rest.length ∧ (rest.take n).length + (rest.drop n).length = rest.length := by
      intro n
      simp only [List.length_take, List.length_drop]; omega
    refine ⟨⟨f1, hi⟩, fun hk2 => ⟨by omega, ?_⟩, fun hk2 => ⟨fun hk1 => ?_, fun hk1 => ⟨fun hk3 => ?_, fun hk3 => ?_⟩⟩⟩
    · rw [if_neg (by omega), if_neg (by omega), if_pos hk2, Option.bind_some] at f3
      exact go _ _ _ _ _ f3 (by simp only [List.length_append]; omega) f5 f6 (fin _ _ f3 (by simp only [List.length_append]; omega) f5 f6)
    · refine vc114_c2 _ _ _ _ _ _ _ _ _ _ ?_
      rintro z1 hz1 z2 hz2 z3 hz3 z4 hz4 z5 hz5 z6 hz6
      rw [← hy1] at hz1
      subst hz1
      rw [if_neg (by omega), if_pos hk1] at f3
      (simp only [vcT, bif_tl, bif_fr, bif_tlf, bif_frf, Bool.not_eq_true', Bool.not_eq_false', decide_eq_true_eq, decide_eq_false_iff_not, beq_iff_eq, beq_eq_false_iff_ne, bne_iff_ne, ne_eq, bne_eq_false_iff_eq, Bool.or_eq_true, Bool.and_eq_true, Bool.or_eq_false_iff, Bool.and_eq_false_imp])
      rw [Int.toNat_natCast] at hz5
      rw [Int.toNat_natCast]
      refine ⟨fun hs => no ?_, fun hs => ⟨by omega, by omega, fun h => by omega, fun _ => ⟨fun _ => ⟨?_, fun hq => no ?_, fun hq => ?_⟩, fun h => absurd hk1 h⟩⟩⟩
      · have : goneD z1.l rest = false := by unfold goneD; rw [decide_eq_false (by omega)]; rfl
        rw [this, if_neg (by simp)] at f3
        exact f3.symm
      · have := massK_take z1.l.length rest
        simp only [pre96]; omega
      · have : goneD z1.l rest = false := by unfold goneD; rw [← hz5, hq]; simp
        rw [this, if_neg (by simp)] at f3
        exact f3.symm
      · have : goneD z1.l rest = true := by unfold goneD; rw [← hz5, hq, decide_eq_true (by omega)]; rfl
        rw [this, if_pos rfl, Option.bind_some] at f3
        have hd := massK_drop z1.l.length rest
        have ht1 := ht z1.l.length
        exact go _ _ _ _ _ f3 (by omega) (by omega) (rngK_drop f6 _) (fin _ _ f3 (by omega) (by omega) (rngK_drop f6 _))
    · refine vc114_c2 _ _ _ _ _ _ _ _ _ _ ?_
      rintro z1 hz1 z2 hz2 z3 hz3 z4 hz4 z5 hz5 z6 hz6
      rw [← hy1] at hz1
      subst hz1
      rw [if_neg (by omega), if_neg hk1, if_neg hk2] at f3
      (simp only [vcT, bif_tl, bif_fr, bif_tlf, bif_frf, Bool.not_eq_true', Bool.not_eq_false', decide_eq_true_eq, decide_eq_false_iff_not, beq_iff_eq, beq_eq_false_iff_ne, bne_iff_ne, ne_eq, bne_eq_false_iff_eq, Bool.or_eq_true, Bool.and_eq_true, Bool.or_eq_false_iff, Bool.and_eq_false_imp])
      rw [show Int.toNat 1 = 1 from rfl]
      refine ⟨fun hs => no ?_, fun hs => ⟨by omega, by omega, fun h => by omega, fun _ => ⟨fun h => absurd h hk1, fun _ => ?_⟩⟩⟩
      · rw [if_pos (by omega)] at f3
        exact f3.symm
      · have hz : z3 = rest.getD 0 Tree.nil := by
          rw [hz3, hz2]
          cases rest with
          | nil => rfl
          | cons a r => rfl
        rw [if_neg (by omega), ← hz, ← hz4] at f3
        have hm3 := mass_kid rest 0
        have hr3 := rng_kid f6 0
        rw [← hz] at hm3 hr3
        have hre := right_desc hr hk3
        rw [← hz4] at hre hme hro
        refine ⟨?_, by simp only [pre82]; exact ⟨⟨by omega, hro.2.2.2, _, hre⟩, by omega, hr3⟩, by simp only [mu82]; omega, fun hne => no ?_, fun heq => ?_⟩
        · simp only [List.length_take]; omega
        · have hne : doE false z4 z3 = none := by simpa using hne
          rw [hne] at f3
          exact f3.symm
        · obtain ⟨u, hu⟩ := Option.isSome_iff_exists.1 heq
          rw [oneT_some hu] at hz6
          subst hz6
          rw [hu, Option.map_some, Option.bind_some] at f3
          have hd := massK_drop 1 rest
          have ht1 := ht 1
          have ht2 : (rest.take 1).length = 1 := by simp only [List.length_take]; omega
          refine ⟨by simp only [List.length_singleton]; omega, ?_⟩
          exact go _ _ _ _ _ f3 (by simp only [List.length_append, List.length_singleton]; omega) (by omega) (rngK_drop f6 _) (fin _ _ f3 (by simp only [List.length_append, List.length_singleton]; omega) (by omega) (rngK_drop f6 _))
    · have hk0 : y1.kind = 0 := by cases r1 <;> first | rfl | (exfalso; simp at hk1 hk2 hk3)
      refine vc114_c2 _ _ _ _ _ _ _ _ _ _ ?_
      rintro z1 hz1 z2 hz2 z3 hz3 z4 hz4 z5 hz5 z6 hz6
      rw [← hy1] at hz1
      subst hz1
      rw [if_pos hk0] at f3
      have hn : 1 ≤ z1.n ∧ z1.n ≤ 1048576 := by cases r1 <;> first | (constructor <;> assumption) | (exfalso; simp at hk1 hk2 hk3 hk0)
      (simp only [vcT, bif_tl, bif_fr, bif_tlf, bif_frf, Bool.not_eq_true', Bool.not_eq_false', decide_eq_true_eq, decide_eq_false_iff_not, beq_iff_eq, beq_eq_false_iff_ne, bne_iff_ne, ne_eq, bne_eq_false_iff_eq, Bool.or_eq_true, Bool.and_eq_true, Bool.or_eq_false_iff, Bool.and_eq_false_imp])
      refine ⟨fun hs => no ?_, fun hs => ⟨by omega, by omega, fun _ => ⟨?_, ?_⟩, fun h => absurd hk0 h⟩⟩
      · rw [if_neg (by omega)] at f3
        exact f3.symm
      · have := (ht z1.n.toNat).1
        omega
      · rw [if_pos (by omega), Option.bind_some] at f3
        have hd := massK_drop z1.n.toNat rest
        have ht1 := ht z1.n.toNat
        exact go _ _ _ _ _ f3 (by simp only [List.length_append]; omega) (by omega) (rngK_drop f6 _) (fin _ _ f3 (by simp only [List.length_append]; omega) (by omega) (rngK_drop f6 _))
  · rw [List.drop_of_length_le (by omega), doOs] at f3
    simp only [res114, ← f3, lstT, endD, Option.bind_some, hk]
    by_cases hr : rest.length = 0
    · rw [if_pos hr, hr]
      (repeat' (first | exact trivial | exact rfl | refine And.intro ?_ ?_))
    · rw [if_neg hr, show ((rest.length : Int) == 0) = false by rw [beq_eq_false_iff_ne]; omega]
      (repeat' (first | exact trivial | exact rfl | refine And.intro ?_ ?_))

theorem c82_ : Contract Try.prog cfg 82 spec82 ∧ Contract Try.prog cfg 113 spec113 ∧ Contract Try.prog cfg 114 spec114 := make82_ c34 c73 c74 c96 c126 c127 c1071 b82 b113 b114
theorem c82 : Contract Try.prog cfg 82 spec82 := c82_.1

end Go.AM.Ytlahjnelghpmeaa

namespace Go.AM.Ytlahjnelghpmeaa
open Go.AM Go.Proofs

def rOp (list : Int) (d : Int) (o : Op) : Prop := (o.kind = 0 → 1 ≤ o.n ∧ o.l.length = 0 ∧ sameE o.e = true) ∧ (o.kind ≠ 0 → rightOp list o d = true)


end Go.AM.Ytlahjnelghpmeaa

namespace Go.AM.Ytlahjnelghpmeaa
open Go.AM Go.Proofs


theorem rng_nilT : rng Tree.nil := by
  simp only [Tree.nil, rng, rngK]
  exact ⟨by decide, by simp, trivial⟩



end Go.AM.Ytlahjnelghpmeaa

namespace Go.AM.Ytlahjnelghpmeaa
open Go.AM Go.Proofs

theorem massTK (t : Tree) : t.words.length + massK t.kids + 1 = mass t := by obtain ⟨k, w, ks⟩ := t; simp only [mass, Tree.words_mk, Tree.kids_mk]; omega
theorem massK_set : ∀ (l : List Tree) (i : Nat) (x : Tree), i < l.length → massK (l.set i x) + mass (l.getD i Tree.nil) = massK l + mass x
  | [], i, x, h => by simp at h
  | a :: r, 0, x, _ => by simp only [List.set_cons_zero, massK, List.getD_cons_zero]; omega
  | a :: r, i + 1, x, h => by
    have := massK_set r i x (by simpa using h)
    simp only [List.set_cons_succ, massK, List.getD_cons_succ]; omega
theorem massK_reps (n : Nat) : massK (List.replicate n Tree.nil) = n := by
  induction n with
  | zero => rfl
  | succ n ih => rw [List.replicate_succ, massK, ih]; simp [Tree.nil, mass, massK]; omega
theorem massK_cat : ∀ (a b : List Tree), massK (a ++ b) = massK a + massK b
  | [], b => by simp [massK]
  | t :: r, b => by simp only [List.cons_append, massK, massK_cat r b]; omega
theorem massK_pad (l : List Tree) (i : Nat) (x : Tree) : massK (setPad Tree.nil l i x) + mass (l.getD i Tree.nil) ≤ massK l + mass x + (i + 1) := by
  have h := massK_set (l ++ List.replicate (i + 1 - l.length) Tree.nil) i x (by simp; omega)
  have e : (l ++ List.replicate (i + 1 - l.length) Tree.nil).getD i Tree.nil = l.getD i Tree.nil := by
    by_cases hi : i < l.length
    · simp only [List.getD_eq_getElem?_getD]; rw [List.getElem?_append_left hi]
    · simp only [List.getD_eq_getElem?_getD]
      rw [List.getElem?_append_right (by omega), List.getElem?_eq_none (l := l) (by omega), List.getElem?_replicate]
      split <;> rfl
  rw [e, massK_cat, massK_reps] at h
  simp only [setPad]
  omega

theorem wsD_len {tw : List Int} : ∀ {ws : List WEdit} {last : Int} {out a : List Int}, wordsOk last ws = true → wsD tw ws out = some a → a.length ≤ max out.length 65535
  | [], _, out, a, _, h => by rw [wsD] at h; cases h; omega
  | w :: r, last, out, a, hw, h => by
    have h1 := wordsOk_all hw w List.mem_cons_self
    simp only [wordsOk, Bool.and_eq_true] at hw
    rw [wsD] at h
    split at h
    · have := wsD_len hw.2 h
      rw [setPad_length] at this
      omega
    · cases h

theorem rightKs_cons {last d : Int} {k : Kid} {r : List Kid} (h : rightKs last (k :: r) d = true) : (last < k.at_ ∧ k.at_ ≤ 65534) ∧ rightE k.e d = true ∧ rightKs k.at_ r d = true := by
  have := rightKs_all h k List.mem_cons_self
  simp only [rightKs, Bool.and_eq_true] at h
  exact ⟨⟨this.1.1, this.1.2.1⟩, this.2, h.2⟩

theorem mass_step {A B C b u m M s o : Nat} (m1 : u + 262144 ≤ B + 131072 * m) (m2 : A + B ≤ o + u + C) (m3 : b + 131072 * s ≤ A + 131072 * M) (m4 : C ≤ 131072) : b + 131072 * (s + 1) ≤ o + 131072 * (m + M) := by
  rw [Nat.mul_add, Nat.mul_add, Nat.mul_one, ← Nat.add_assoc]
  generalize 131072 * s = S at *
  generalize 131072 * m = X at *
  generalize 131072 * M = Y at *
  omega

theorem nrD_mass (r : Bool) (v : Tree) : mass (nrD r v) ≤ mass v := by
  unfold nrD
  split
  · exact normT_mass v
  · exact Nat.le_refl _

mutual
theorem mass_raw (r : Bool) : ∀ (e : Edit) (d : Int) (t v : Tree), rightE e d = true → rawE r e t = some v → mass v + 262144 ≤ mass t + 131072 * massE e
  | .mk k o n w ks l os, d, t, v, hr, hv => by
    have ri := rightE_all hr
    have h1 := mass_doKs r ks t.kids
    have h2 := mass_doOs r l os
    have hm := len_massE (.mk k o n w ks l os)
    have po := mass_pos o
    have pn := mass_pos n
    have ht := massTK t
    simp only [Edit.old_mk, Edit.new_mk, Edit.words_mk, Edit.kids_mk, Edit.ops_mk] at hm
    unfold rawE at hv
    split at hv
    · cases hv; omega
    · split at hv
      · split at hv
        · cases hv
          show mass n + _ ≤ _
          omega
        · cases hv
      · split at hv
        · split at hv
          · obtain ⟨a, ha, hb⟩ := Option.bind_eq_some_iff.1 hv
            obtain ⟨b, hb, e⟩ := Option.map_eq_some_iff.1 hb
            have l1 := wsD_len ri.words ha
            have l2 := h1 t.kids b _ (-1) (by omega) ri.kids (fun j _ => rfl) hb
            rw [← e]
            simp only [mass]
            omega
          · cases hv
        · split at hv
          · split at hv
            · obtain ⟨b, hb, e⟩ := Option.map_eq_some_iff.1 hv
              unfold endD at hb
              obtain ⟨x, hx, hy⟩ := Option.bind_eq_some_iff.1 hb
              have l2 := h2 _ t.kids [] x (fun o ho => Go.AM.rightOs_mem ri.ops o ho) hx
              split at hy
              · cases hy
                rw [← e]
                simp only [mass, List.length_nil]
                simp only [massK] at l2
                omega
              · cases hy
            · cases hv
          · cases hv
theorem mass_doKs (r : Bool) : ∀ (ks : List (KidOf Edit)) (tk out b : List Tree) (d last : Int), -1 ≤ last → rightKs last ks d = true → (∀ j : Nat, last < (j : Int) → out.getD j Tree.nil = tk.getD j Tree.nil) → doKs r tk ks out = some b → massK b + 131072 * ks.length ≤ massK out + 131072 * massKs ks
  | [], tk, out, b, d, last, _, _, _, h => by rw [doKs] at h; cases h; simp
  | k :: s, tk, out, b, d, last, hl, hr, hj, h => by
    obtain ⟨h1, h2, h3⟩ := rightKs_cons hr
    rw [doKs] at h
    obtain ⟨u, hu, hb⟩ := Option.bind_eq_some_iff.1 h
    have m1 := mass_doKid r k tk u d h2 hu
    have m2 := massK_pad out k.at_.toNat u
    rw [hj k.at_.toNat (by omega)] at m2
    have m3 := mass_doKs r s tk _ b d k.at_ (by omega) h3 (fun j hj' => by
      rw [setPad_getD, if_neg (by omega)]
      exact hj j (by omega)) hb
    have m4 : k.at_.toNat + 1 ≤ 131072 := by omega
    have e1 : massKs (k :: s) = massE k.e + massKs s := by rw [massKs, massKid_e]
    rw [e1, List.length_cons]
    exact mass_step m1 m2 m3 m4
theorem mass_doKid (r : Bool) : ∀ (k : KidOf Edit) (tk : List Tree) (u : Tree) (d : Int), rightE k.e d = true → doKid r tk k = some u → mass u + 262144 ≤ mass (tk.getD k.at_.toNat Tree.nil) + 131072 * massE k.e
  | ⟨a, e⟩, tk, u, d, hr, h => by
    rw [doKid, doE_raw] at h
    obtain ⟨v, hv, hu⟩ := Option.map_eq_some_iff.1 h
    have := mass_raw r e d (tk.getD a.toNat Tree.nil) v hr hv
    have hvu := nrD_mass r v
    rw [hu] at hvu
    dsimp only
    omega
theorem mass_doOs (r : Bool) (l : Int) : ∀ (os : List (OpOf Edit)) (d : Int) (rest out : List Tree) (x : List Tree × List Tree), (∀ o ∈ os, rightOp l o d = true) → doOs r os rest out = some x → massK x.1 + massK x.2 ≤ massK out + massK rest + 131072 * massOs os
  | [], d, rest, out, x, _, h => by rw [doOs] at h; cases h; simp
  | o :: s, d, rest, out, x, hr, h => by
    rw [doOs] at h
    obtain ⟨y, hy, hx⟩ := Option.bind_eq_some_iff.1 h
    have m1 := mass_doOp r l o d rest out y (hr o List.mem_cons_self) hy
    have m2 := mass_doOs r l s d _ _ x (fun q hq => hr q (List.mem_cons_of_mem _ hq)) hx
    rw [massOs]
    omega
theorem mass_doOp (r : Bool) (l : Int) : ∀ (o : OpOf Edit) (d : Int) (rest out : List Tree) (x : List Tree × List Tree), rightOp l o d = true → doOp r o rest out = some x → massK x.1 + massK x.2 ≤ massK out + massK rest + 131072 * massOp o
  | ⟨k, n, L, e⟩, d, rest, out, x, hr, h => by
    have he := mass_raw r e d (rest.getD 0 Tree.nil)
    have hp := massE_pos e
    rw [doOp] at h
    simp only [massOp]
    split at h
    · split at h
      · cases h
        have := massK_cat (rest.take n.toNat) (rest.drop n.toNat)
        rw [List.take_append_drop] at this
        dsimp only
        rw [massK_cat]; omega
      · cases h
    · split at h
      · split at h
        · cases h
          have := massK_drop L.length rest
          dsimp only; omega
        · cases h
      · split at h
        · cases h
          dsimp only
          rw [massK_cat]; omega
        · split at h
          · cases h
          · obtain ⟨u, hu, e2⟩ := Option.map_eq_some_iff.1 h
            cases e2
            have hk : k = 3 := by
              have ra := rightOp_all hr
              generalize ho : OpOf.mk k n L e = o at ra
              cases ra <;> (injection ho with h1; try omega)
            rw [doE_raw] at hu
            obtain ⟨v, hv, hu⟩ := Option.map_eq_some_iff.1 hu
            have := he v (right_desc hr hk) hv
            have hvu := nrD_mass r v
            rw [hu] at hvu
            cases rest with
            | nil => contradiction
            | cons a q =>
              rw [massK_cat]
              simp only [massK, List.drop_succ_cons, List.drop_zero, List.getD_cons_zero] at this ⊢
              omega
end


theorem mass_do (r : Bool) (e : Edit) (d : Int) (t u : Tree) (hr : rightE e d = true) (h : doE r e t = some u) : mass u + 262144 ≤ mass t + 131072 * massE e := by
  rw [doE_raw] at h
  obtain ⟨v, hv, hu⟩ := Option.map_eq_some_iff.1 h
  have := mass_raw r e d t v hr hv
  have hvu := nrD_mass r v
  rw [hu] at hvu
  omega


end Go.AM.Ytlahjnelghpmeaa

namespace Go.AM.Ytlahjnelghpmeaa
open Go.AM Go.Proofs

theorem doE_mass {r : Bool} {e : Edit} {t u : Tree} (he : massE e ≤ 1000000) (hr : ∃ d, rightE e d = true) (ht : mass t ≤ 100000000000) (h : doE r e t = some u) : mass u ≤ 1000000000000 := by
  obtain ⟨d, hr⟩ := hr
  have := mass_do r e d t u hr h
  omega

theorem c52 : Contract Try.prog cfg 52 spec52 := by
  refine make52 c32 c82 ?_
  intro e t _ hp
  simp only [pre52] at hp
  refine vc52 _ _ _ ?_
  rintro y1 hy1 y2 hy2 y3 hy3
  subst hy1 hy2
  (simp only [vcT, bif_tl, bif_fr, bif_tlf, bif_frf, Bool.not_eq_true', Bool.not_eq_false', decide_eq_true_eq, decide_eq_false_iff_not, beq_iff_eq, beq_eq_false_iff_ne, bne_iff_ne, ne_eq, bne_eq_false_iff_eq, Bool.or_eq_true, Bool.and_eq_true, Bool.or_eq_false_iff, Bool.and_eq_false_imp])
  refine ⟨by simp only [pre82]; exact hp, fun hn => ?_, fun hs => ?_⟩
  · have hn : doE false y1 y2 = none := by simpa using hn
    simp only [res52, hn]
    (repeat' (first | exact trivial | exact rfl | refine And.intro ?_ ?_))
  · obtain ⟨u, hu⟩ := Option.isSome_iff_exists.1 hs
    rw [oneT_some hu] at hy3
    subst hy3
    have := doE_mass hp.1.1 hp.1.2.2 hp.2.1 hu
    refine ⟨by simp only [pre32]; exact this, ?_⟩
    simp only [res52, hu]
    (repeat' (first | exact trivial | exact rfl | refine And.intro ?_ ?_))

theorem c115 : Contract Try.prog cfg 115 spec115 := by
  refine make115 ?_
  intro t i _ hp
  simp only [pre115] at hp
  refine vc115 _ _ _ ?_
  (simp only [vcT, bif_tl, bif_fr, bif_tlf, bif_frf, Bool.not_eq_true', Bool.not_eq_false', decide_eq_true_eq, decide_eq_false_iff_not, beq_iff_eq, beq_eq_false_iff_ne, bne_iff_ne, ne_eq, bne_eq_false_iff_eq, Bool.or_eq_true, Bool.and_eq_true, Bool.or_eq_false_iff, Bool.and_eq_false_imp])
  refine ⟨fun h => ⟨⟨hp, h⟩, ends_int rfl (wordAt_pos t hp).symm⟩, fun h => ends_int rfl ?_⟩
  rw [wordAt_pos t hp, List.getD_eq_getElem?_getD, List.getElem?_eq_none (by omega)]
  rfl

theorem c117 : Contract Try.prog cfg 117 spec117 := by
  refine make117 ?_
  intro t i _ hp
  simp only [pre117] at hp
  have hk := kidAt_pos t hp
  refine vc117 _ _ _ ?_
  (simp only [vcT, bif_tl, bif_fr, bif_tlf, bif_frf, Bool.not_eq_true', Bool.not_eq_false', decide_eq_true_eq, decide_eq_false_iff_not, beq_iff_eq, beq_eq_false_iff_ne, bne_iff_ne, ne_eq, bne_eq_false_iff_eq, Bool.or_eq_true, Bool.and_eq_true, Bool.or_eq_false_iff, Bool.and_eq_false_imp])
  simp only [res117, hk]
  refine ⟨fun h => ⟨⟨hp, h⟩, ?_⟩, fun h => ?_⟩
  · (repeat' (first | exact trivial | exact rfl | refine And.intro ?_ ?_))
  · rw [List.getD_eq_getElem?_getD, List.getElem?_eq_none (by omega)]
    (repeat' (first | exact trivial | exact rfl | refine And.intro ?_ ?_))

theorem lst_some {r : Bool} {e : Edit} {t : Tree} {l : List Tree} (h : endD (lstD r e t) = some l) : lstT e (lstD r e t) = .mk e.list [] l := by
  unfold endD at h
  obtain ⟨x, hx, hy⟩ := Option.bind_eq_some_iff.1 h
  rw [hx]
  split at hy
  · cases hy; rfl
  · cases hy

theorem b53 : HB53 := by
  intro N e t _ hp hN
  simp only [pre53, mu53] at hp hN
  obtain ⟨⟨p1, p2, d, p3⟩, p4, p5⟩ := hp
  have h1 := len_massE e
  have ri := rightE_all p3
  have hd := doE_raw true e t
  have hm := mass_raw true e d t
  refine vc53 _ _ _ _ ?_
  rintro y1 hy1 y2 hy2 y3 hy3 y4 hy4 y5 hy5 y6 hy6
  subst hy1 hy2 hy3 hy4
  (simp only [vcT, bif_tl, bif_fr, bif_tlf, bif_frf, Bool.not_eq_true', Bool.not_eq_false', decide_eq_true_eq, decide_eq_false_iff_not, beq_iff_eq, beq_eq_false_iff_ne, bne_iff_ne, ne_eq, bne_eq_false_iff_eq, Bool.or_eq_true, Bool.and_eq_true, Bool.or_eq_false_iff, Bool.and_eq_false_imp])
  simp only [vcF]
  have big : ∀ v, rawE true y1 y2 = some v → mass v ≤ 1000000000000 := fun v hv => by have := hm v p3 hv; omega
  have no : rawE true y1 y2 = none → EndsQ cfg Try.f53.ntmps Try.f53.results.toList (res53 (y1, y2, ())) [] .ret (⟨[(4, .ptr (.loc 4) 0), (5, .c (.bool false))], [((.loc 4), [.int .i64 0, .nils, .nils])], []⟩ : LSt U) := by
    intro h
    rw [h] at hd
    simp only [res53, hd]
    (repeat' (first | exact trivial | exact rfl | refine And.intro ?_ ?_))
  have yes : ∀ v, rawE true y1 y2 = some v → EndsQ cfg Try.f53.ntmps Try.f53.results.toList (res53 (y1, y2, ())) [] .ret (⟨[(4, .ptr (.loc 4) 0), (5, .c (.bool true))], [((.loc 4), [.int .i64 (Tree.kind (normT v)), .slice (U := U) .u64 (Tree.words (normT v)) .unk, .slice (U := U) .tree (Tree.kids (normT v)) .unk])], []⟩ : LSt U) := by
    intro v h
    rw [h] at hd
    simp only [res53, hd]
    (repeat' (first | exact trivial | exact rfl | refine And.intro ?_ ?_))
  unfold rawE at big no yes
  refine ⟨fun hk => ?_, fun hk => ⟨fun hk1 => ?_, fun hk1 => ⟨fun hk2 => ?_, fun hk2 => ⟨fun hk3 => ?_, fun hk3 => ?_⟩⟩⟩⟩
  · rw [if_pos hk] at big no yes
    exact ⟨by simp only [pre31]; omega, yes _ rfl⟩
  · rw [if_neg hk, if_pos hk1] at big no yes
    refine ⟨by simp only [pre36]; omega, fun hs => no (by rw [hs]; rfl), fun hs => ?_⟩
    rw [if_pos hs] at big yes
    exact ⟨by simp only [pre31]; exact big _ rfl, yes _ rfl⟩
  · rw [if_neg hk, if_neg hk1, if_pos hk2] at big no yes
    refine ⟨by simp only [pre83]; exact ⟨hk2, ⟨p1, p2, d, p3⟩, p4, p5⟩, by simp only [mu83]; omega, fun hs => no ?_, fun hs => ?_⟩
    · have hs : strD true y1 y2 = none := by simpa using hs
      exact hs
    · obtain ⟨u, hu⟩ := Option.isSome_iff_exists.1 hs
      have e5 : y5 = u := by rw [hy5, hu]; rfl
      subst e5
      exact ⟨by simp only [pre31]; exact big _ hu, yes _ hu⟩
  · rw [if_neg hk, if_neg hk1, if_neg hk2, if_pos hk3] at big no yes
    have e2 : ∀ o, endD (lstD true y1 y2) = o → (if y2.kind = y1.list then (endD (doOs true y1.ops y2.kids [])).map fun b => Tree.mk y1.list [] b else none) = o.map fun b => Tree.mk y1.list [] b := by
      intro o ho
      unfold lstD at ho
      split
      · rename_i h; rw [if_pos h] at ho; rw [ho]
      · rename_i h; rw [if_neg h] at ho; rw [← ho]; rfl
    refine ⟨by simp only [pre84]; exact ⟨hk3, ⟨p1, p2, d, p3⟩, p4, p5⟩, by simp only [mu84]; omega, fun hs => no ?_, fun hs => ?_⟩
    · have hs : endD (lstD true y1 y2) = none := by simpa using hs
      rw [e2 _ hs]; rfl
    · obtain ⟨l, hl⟩ := Option.isSome_iff_exists.1 hs
      have e6 : y6 = .mk y1.list [] l := by rw [hy6, lst_some hl]
      subst e6
      have e3 := e2 _ hl
      exact ⟨by simp only [pre31]; exact big _ e3, yes _ e3⟩
  · rw [if_neg hk, if_neg hk1, if_neg hk2, if_neg hk3] at no
    exact no rfl

end Go.AM.Ytlahjnelghpmeaa

namespace Go.AM.Ytlahjnelghpmeaa
open Go.AM Go.Proofs

section
variable {α β : Type} (z : α) (f : β → Option α) (p : β → Int)
def mg : List β → List α → Option (List α)
  | [], out => some out
  | w :: r, out => (f w).bind fun v => mg r (setPad z out (p w).toNat v)
def asc (last : Int) : List β → Prop
  | [] => True
  | w :: r => last < p w ∧ asc (p w) r

structure Mg (l0 : List α) (ws : List β) (n a i : Int) (out : List α) : Prop where
  a0 : 0 ≤ a ∧ a ≤ ws.length
  i0 : 0 ≤ i ∧ i ≤ n
  len : (out.length : Int) = i
  ac : asc p (i - 1) (ws.drop a.toNat)
  lt : ∀ w ∈ ws.drop a.toNat, p w < n
  ex : n = l0.length ∨ i = n ∨ ∃ w ∈ ws.drop a.toNat, p w + 1 = n
  n0 : l0.length ≤ n
  eq : mg z f p (ws.drop a.toNat) (out ++ l0.drop i.toNat) = mg z f p ws l0
variable {z f p} {l0 : List α} {ws : List β} {n a i : Int} {out : List α}

theorem setPad_mid (v : α) (i : Nat) (h : out.length = i) : setPad z (out ++ l0.drop i) i v = (out ++ [v]) ++ l0.drop (i + 1) := by
  by_cases hi : i < l0.length
  · simp only [setPad]
    rw [show i + 1 - (out ++ l0.drop i).length = 0 by simp; omega]
    simp only [List.replicate_zero, List.append_nil]
    rw [List.set_append_right _ _ (by omega), show i - out.length = 0 by omega, List.drop_eq_getElem_cons hi, List.set_cons_zero, List.append_assoc]
    rfl
  · rw [List.drop_of_length_le (by omega), List.drop_of_length_le (by omega)]
    simp only [setPad, List.append_nil]
    rw [show i + 1 - out.length = 1 by omega, List.replicate_one, List.set_append_right _ _ (by omega), show i - out.length = 0 by omega]
    rfl
theorem Mg.cons (m : Mg z f p l0 ws n a i out) (d : β) (ha : a < ws.length) : ws.drop a.toNat = ws.getD a.toNat d :: ws.drop (a + 1).toNat := dropI m.a0.1 ha d

theorem Mg.none (m : Mg z f p l0 ws n a i out) (d : β) (ha : a < ws.length) (hf : f (ws.getD a.toNat d) = Option.none) : mg z f p ws l0 = Option.none := by
  rw [← m.eq, m.cons d ha, mg, hf]; rfl

theorem Mg.edit (m : Mg z f p l0 ws n a i out) (d : β) (hi : i < n) (ha : a < ws.length) (hp : p (ws.getD a.toNat d) = i) {v : α} (hf : f (ws.getD a.toNat d) = some v) : Mg z f p l0 ws n (a + 1) (i + 1) (out ++ [v]) := by
  have hc := m.cons d ha
  have h1 := m.ac; have h2 := m.lt; have h3 := m.ex; have h4 := m.eq; have h5 := m.a0; have h6 := m.i0; have h7 := m.len
  rw [hc] at h1 h2 h3 h4
  refine ⟨by omega, by omega, by simp; omega, ?_, fun w hw => h2 w (List.mem_cons_of_mem _ hw), ?_, m.n0, ?_⟩
  · have := h1.2
    rw [hp] at this
    rw [show i + 1 - 1 = i by omega]
    exact this
  · rcases h3 with h3 | h3 | ⟨w, hw, h3⟩
    · exact .inl h3
    · omega
    · rcases List.mem_cons.1 hw with rfl | hw
      · exact .inr (.inl (by omega))
      · exact .inr (.inr ⟨w, hw, h3⟩)
  · rw [mg, hf, Option.bind_some, hp, setPad_mid v i.toNat (by omega), show i.toNat + 1 = (i + 1).toNat by omega] at h4
    exact h4

theorem mg_pad {l : List β} (h : ∃ w, w ∈ l) (ha : asc p (out.length : Int) l) : mg z f p l (out ++ [z]) = mg z f p l out := by
  cases l with
  | nil => obtain ⟨w, hw⟩ := h; cases hw
  | cons w r =>
    have h1 := ha.1
    rw [mg, mg]
    congr 1
    funext v
    have : setPad z (out ++ [z]) (p w).toNat v = setPad z out (p w).toNat v := by
      simp only [setPad, List.length_append, List.length_singleton, List.append_assoc]
      rw [show (p w).toNat + 1 - out.length = ((p w).toNat + 1 - (out.length + 1)) + 1 by omega, List.replicate_succ]
      rfl
    rw [this]

theorem Mg.plain (m : Mg z f p l0 ws n a i out) (d : β) (hi : i < n) (hn : ¬ (a < ws.length ∧ p (ws.getD a.toNat d) = i)) : Mg z f p l0 ws n a (i + 1) (out ++ [l0.getD i.toNat z]) := by
  have h1 := m.ac; have h2 := m.lt; have h3 := m.ex; have h4 := m.eq; have h5 := m.a0; have h6 := m.i0; have h7 := m.len; have h8 := m.n0
  have has : asc p i (ws.drop a.toNat) := by
    by_cases ha : a < ws.length
    · rw [m.cons d ha] at h1 ⊢
      exact ⟨by have := h1.1; have : p (ws.getD a.toNat d) ≠ i := fun e => hn ⟨ha, e⟩; omega, h1.2⟩
    · rw [List.drop_of_length_le (by omega)]; exact trivial
  refine ⟨h5, by omega, by simp; omega, by rw [show i + 1 - 1 = i by omega]; exact has, h2, ?_, h8, ?_⟩
  · rcases h3 with h3 | h3 | h3
    · exact .inl h3
    · omega
    · exact .inr (.inr h3)
  · rw [← h4]
    by_cases hl : i.toNat < l0.length
    · rw [List.drop_eq_getElem_cons hl, show i.toNat + 1 = (i + 1).toNat by omega, List.getD_eq_getElem?_getD, List.getElem?_eq_getElem hl, Option.getD_some]
      simp
    · have e1 : l0.drop i.toNat = [] := List.drop_of_length_le (by omega)
      have e2 : l0.drop (i + 1).toNat = [] := List.drop_of_length_le (by omega)
      rw [e1, e2, List.append_nil, List.append_nil, List.getD_eq_getElem?_getD, List.getElem?_eq_none (by omega), Option.getD_none]
      rcases h3 with h3 | h3 | ⟨w, hw, h3⟩
      · omega
      · omega
      · exact mg_pad ⟨w, hw⟩ (by rw [h7]; exact has)

theorem Mg.fin (m : Mg z f p l0 ws n a i out) (hi : ¬ i < n) : mg z f p ws l0 = some out := by
  have h1 := m.ac; have h2 := m.lt; have h6 := m.i0; have h8 := m.n0
  rw [← m.eq]
  have : ws.drop a.toNat = [] := by
    cases h : ws.drop a.toNat with
    | nil => rfl
    | cons w r =>
      rw [h] at h1 h2
      have := h1.1
      have := h2 w List.mem_cons_self
      omega
  rw [this, mg, List.drop_of_length_le (by omega), List.append_nil]
end

theorem Mg.init {α β : Type} {z : α} {f : β → Option α} {p : β → Int} {l0 : List α} {ws : List β} {n : Int} (d : β) (has : asc p (-1) ws) (hn : n = if 0 < ws.length ∧ (l0.length : Int) ≤ p (ws.getD (ws.length - 1) d) then p (ws.getD (ws.length - 1) d) + 1 else (l0.length : Int)) : Mg z f p l0 ws n 0 0 [] := by
  have last : ∀ (l : List β) (m : Int), asc p m l → ∀ w ∈ l, p w ≤ p (l.getD (l.length - 1) d) := by
    intro l
    induction l with
    | nil => intro m h w hw; cases hw
    | cons b r ih =>
      intro m h w hw
      cases r with
      | nil =>
        rcases List.mem_cons.1 hw with rfl | hw
        · simp
        · cases hw
      | cons c s =>
        have e : (b :: c :: s).getD ((b :: c :: s).length - 1) d = (c :: s).getD ((c :: s).length - 1) d := by simp
        rw [e]
        rcases List.mem_cons.1 hw with rfl | hw
        · have h1 := ih _ h.2 c List.mem_cons_self
          have h2 := h.2.1
          omega
        · exact ih _ h.2 w hw
  have hl := last ws _ has
  have hm : 0 < ws.length → ws.getD (ws.length - 1) d ∈ ws := fun h => mem_getD (by omega) _
  refine ⟨by omega, ⟨by omega, ?_⟩, rfl, has, fun w hw => ?_, ?_, ?_, by simp⟩
  · rw [hn]; split <;> omega
  · have := hl w hw
    have hp : 0 < ws.length := List.length_pos_of_mem hw
    rw [hn]; split <;> omega
  · rw [hn]; split
    · rename_i h; exact .inr (.inr ⟨_, hm h.1, rfl⟩)
    · exact .inl rfl
  · rw [hn]; split <;> omega

theorem wsD_mg (tw : List Int) : ∀ (ws : List WEdit) (out : List Int), wsD tw ws out = mg 0 (fun w => if mix 0 (tw.getD w.at_.toNat 0) w.mask = w.old then some (mix (tw.getD w.at_.toNat 0) w.new w.mask) else none) WEdit.at_ ws out
  | [], _ => rfl
  | w :: r, out => by
    rw [wsD, mg]
    split
    · rw [Option.bind_some]; exact wsD_mg tw r _
    · rfl
theorem doKs_mg (r : Bool) (tk : List Tree) : ∀ (ks : List Kid) (out : List Tree), doKs r tk ks out = mg Tree.nil (doKid r tk) KidOf.at_ ks out
  | [], _ => by rw [doKs]; rfl
  | k :: s, out => by
    rw [doKs, mg]
    congr 1
    funext u
    exact doKs_mg r tk s _
theorem words_asc : ∀ {ws : List WEdit} {last : Int}, wordsOk last ws = true → asc WEdit.at_ last ws
  | [], _, _ => trivial
  | w :: r, last, h => by
    have h1 := wordsOk_all h w List.mem_cons_self
    simp only [wordsOk, Bool.and_eq_true] at h
    exact ⟨h1.1, words_asc h.2⟩
theorem kids_asc : ∀ {ks : List Kid} {last d : Int}, rightKs last ks d = true → asc KidOf.at_ last ks
  | [], _, _, _ => trivial
  | k :: r, last, d, h => by
    obtain ⟨h1, _, h3⟩ := rightKs_cons h
    exact ⟨h1.1, kids_asc h3⟩

end Go.AM.Ytlahjnelghpmeaa
