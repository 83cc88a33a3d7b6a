import Derived.Test.YtpjenobkibfpcaaGreatZKB20e
import Derived.Test.YtpjenobkibfpcaaGreatZKB22b
import Derived.Test.YtpjenobkibfpcaaGreatZCL25m
set_option linter.unusedSimpArgs false
set_option linter.unusedVariables false
namespace Go.AM.YtpjenobkibfpcaaGreat
open Go.AM Go.Proofs
def args1117 : ArgL (List Int × Unit) := (.cons (aSl .u64) .nil)
def pre1117 (a : List Int × Unit) : Prop := a.1.length ≤ 1000000000000
noncomputable def resL1117 (a : List Int × Unit) : List Int := a.1
noncomputable def spec1117 : Fs U := fsL args1117 (fun a => [pre1117 a]) .u64 resL1117
def args175 : ArgL (List Tree × Unit) := (.cons (aSl .tree) .nil)
def pre175 (a : List Tree × Unit) : Prop := a.1.length ≤ 1000000000000
noncomputable def resL175 (a : List Tree × Unit) : List Tree := a.1
noncomputable def spec175 : Fs U := fsL args175 (fun a => [pre175 a]) .tree resL175
def args74 : ArgL (Edit × Tree × Unit) := (.cons (aEl .edit) (.cons (aEl .tree) .nil))
def pre74 (a : Edit × Tree × Unit) : Prop := (massE a.1 ≤ 20000000000 ∧ rngE a.1 ∧ ∃ d, rightE a.1 d = true) ∧ mass a.2.1 + ctE a.1 ≤ 200000000000 ∧ rng a.2.1
def mu74 (a : Edit × Tree × Unit) : Nat := 2 * massE a.1 + 1
noncomputable def res74 (a : Edit × Tree × Unit) : V U := .tup [(true, [.int .i64 (Tree.kind (oneT a.1 a.2.1)), .slice (U := U) .u64 (Tree.words (oneT a.1 a.2.1)) .unk, .slice (U := U) .tree (Tree.kids (oneT a.1 a.2.1)) .unk]), (false, [.bool ((doE false a.1 a.2.1).isSome)])]
noncomputable def spec74 : Fs U := fs args74 (fun a => [pre74 a]) res74
def args115 : ArgL (Edit × Tree × Unit) := (.cons (aEl .edit) (.cons (aEl .tree) .nil))
def pre115 (a : Edit × Tree × Unit) : Prop := Edit.kind a.1 = 2 ∧ (massE a.1 ≤ 20000000000 ∧ rngE a.1 ∧ ∃ d, rightE a.1 d = true) ∧ mass a.2.1 + ctE a.1 ≤ 200000000000 ∧ rng a.2.1
def mu115 (a : Edit × Tree × Unit) : Nat := 2 * massE a.1
noncomputable def res115 (a : Edit × Tree × Unit) : V U := .tup [(true, [.int .i64 (Tree.kind (orNil (strD false a.1 a.2.1))), .slice (U := U) .u64 (Tree.words (orNil (strD false a.1 a.2.1))) .unk, .slice (U := U) .tree (Tree.kids (orNil (strD false a.1 a.2.1))) .unk]), (false, [.bool ((strD false a.1 a.2.1).isSome)])]
noncomputable def spec115 : Fs U := fs args115 (fun a => [pre115 a]) res115
def args116 : ArgL (Edit × Tree × Unit) := (.cons (aEl .edit) (.cons (aEl .tree) .nil))
def pre116 (a : Edit × Tree × Unit) : Prop := Edit.kind a.1 = 3 ∧ (massE a.1 ≤ 20000000000 ∧ rngE a.1 ∧ ∃ d, rightE a.1 d = true) ∧ mass a.2.1 + ctE a.1 ≤ 200000000000 ∧ rng a.2.1
def mu116 (a : Edit × Tree × Unit) : Nat := 2 * massE a.1
noncomputable def res116 (a : Edit × Tree × Unit) : V U := .tup [(true, [.int .i64 (Tree.kind (lstT a.1 (lstD false a.1 a.2.1))), .slice (U := U) .u64 (Tree.words (lstT a.1 (lstD false a.1 a.2.1))) .unk, .slice (U := U) .tree (Tree.kids (lstT a.1 (lstD false a.1 a.2.1))) .unk]), (false, [.bool ((endD (lstD false a.1 a.2.1)).isSome)])]
noncomputable def spec116 : Fs U := fs args116 (fun a => [pre116 a]) res116
noncomputable def know1117 : List (FuncId × Fs U) := []
def lv1117 : Lives U := fun i => match i with
  | 0 => ([(0, [])], [])
  | 1 => ([(0, []), (4, [])], [])
  | 2 => ([(2, [.wr .u64])], [])
  | 3 => ([(2, [.wr .u64])], [])
  | _ => ([], [])
noncomputable abbrev A1117 (p : List Nat) := awp cfg (knowM know1117) (drawOk cfg (knowM know1117)) Tryz.f117.ntmps lv1117 (cd Tryz.f117 p)
theorem vc1117 (l : List Int) (Q : AExit → LSt U → Prop) (h : ((((l = []) → (Q .ret (⟨[(2, .c (.mref (.e 2 0)))], [], [(.e 2 0, LC.mk (U := U) .u64 ([]) 0)]⟩ : LSt U))) ∧ ((True) → ((([] : List Int).length + l.length) * 8 ≤ 140737488355328) ∧ (Q .ret (⟨[(2, .c (.mref (.e 2 0)))], [], [(.e 2 0, LC.mk (U := U) .u64 (([] : List Int) ++ l) (([] : List Int).length))]⟩ : LSt U)))))) :
    A1117 [] (⟨[(0, .c (.slice (U := U) .u64 l .unk))], [], []⟩ : LSt U) Q :=
  Eq.mpr (by kernel_rfl) h
def Body1117 (l : List Int)  : Prop := awp cfg (knowM (know1117)) (drawOk cfg (knowM (know1117))) Tryz.f117.ntmps lv1117 (cd Tryz.f117 []) (entry (args1117.can (l, ())) []) (EndsQL cfg Tryz.f117.ntmps Tryz.f117.results.toList (.c (.mref (.r 0 0))) [] [(.r 0 0, LC.mk (U := U) .u64 (resL1117 (l, ())) 0)])
theorem make1117 (hb : ∀ (l : List Int) (_ : Unit), pre1117 (l, ()) → Body1117 l) : Contract Tryz.prog cfg 117 spec1117 :=
  contractL_flat (l := []) cfgOk rfl (trivial) lv1117 Tryz.func117 rfl rfl 1 (fun _ => rfl) (by decide) (fun ⟨l, _⟩ => hb l ())
noncomputable def know175 : List (FuncId × Fs U) := []
def lv175 : Lives U := fun i => match i with
  | 0 => ([(0, [])], [])
  | 1 => ([(0, []), (4, [])], [])
  | 2 => ([(2, [.wr .tree])], [])
  | 3 => ([(2, [.wr .tree])], [])
  | _ => ([], [])
noncomputable abbrev A175 (p : List Nat) := awp cfg (knowM know175) (drawOk cfg (knowM know175)) Tryz.f175.ntmps lv175 (cd Tryz.f175 p)
theorem vc175 (l : List Tree) (Q : AExit → LSt U → Prop) (h : ((((l = []) → (Q .ret (⟨[(2, .c (.mref (.e 2 0)))], [], [(.e 2 0, LC.mk (U := U) .tree ([]) 0)]⟩ : LSt U))) ∧ ((True) → ((([] : List Tree).length + l.length) * 56 ≤ 140737488355328) ∧ (Q .ret (⟨[(2, .c (.mref (.e 2 0)))], [], [(.e 2 0, LC.mk (U := U) .tree (([] : List Tree) ++ l) (([] : List Tree).length))]⟩ : LSt U)))))) :
    A175 [] (⟨[(0, .c (.slice (U := U) .tree l .unk))], [], []⟩ : LSt U) Q :=
  Eq.mpr (by kernel_rfl) h
def Body175 (l : List Tree)  : Prop := awp cfg (knowM (know175)) (drawOk cfg (knowM (know175))) Tryz.f175.ntmps lv175 (cd Tryz.f175 []) (entry (args175.can (l, ())) []) (EndsQL cfg Tryz.f175.ntmps Tryz.f175.results.toList (.c (.mref (.r 0 0))) [] [(.r 0 0, LC.mk (U := U) .tree (resL175 (l, ())) 0)])
theorem make175 (hb : ∀ (l : List Tree) (_ : Unit), pre175 (l, ()) → Body175 l) : Contract Tryz.prog cfg 175 spec175 :=
  contractL_flat (l := []) cfgOk rfl (trivial) lv175 Tryz.func175 rfl rfl 1 (fun _ => rfl) (by decide) (fun ⟨l, _⟩ => hb l ())
noncomputable def know74 (N : Nat) : List (FuncId × Fs U) := (74, fs args74 (fun a => [pre74 a, mu74 a < N]) res74) :: (115, fs args115 (fun a => [pre115 a, mu115 a < N]) res115) :: (116, fs args116 (fun a => [pre116 a, mu116 a < N]) res116) :: [(114, spec114), (173, spec173), (174, spec174), (177, spec177), (175, spec175), (176, spec176), (117, spec1117)]
def lv74 : Lives U := fun i => match i with
  | 0 => ([(2, []), (3, []), (4, [])], [((.loc 2), []), ((.loc 3), []), ((.loc 4), [])])
  | 1 => ([(2, []), (3, []), (4, []), (7, [])], [((.loc 2), []), ((.loc 3), []), ((.loc 4), [])])
  | 2 => ([(2, []), (3, []), (4, []), (7, []), (8, [])], [((.loc 2), []), ((.loc 3), []), ((.loc 4), [])])
  | 3 => ([(4, []), (5, [])], [((.loc 4), [])])
  | 4 => ([(2, []), (3, []), (4, []), (7, []), (11, [])], [((.loc 2), []), ((.loc 3), []), ((.loc 4), [])])
  | 5 => ([(4, []), (5, [])], [((.loc 4), [])])
  | 6 => ([(2, []), (3, []), (4, []), (7, []), (19, [])], [((.loc 2), []), ((.loc 3), []), ((.loc 4), [])])
  | 7 => ([(4, []), (5, [])], [((.loc 4), [])])
  | 8 => ([(2, []), (3, []), (4, []), (26, [])], [((.loc 2), []), ((.loc 3), []), ((.loc 4), [])])
  | 9 => ([(4, []), (5, [])], [((.loc 4), [])])
  | 10 => ([(4, []), (5, [])], [((.loc 4), [])])
  | _ => ([], [])
noncomputable abbrev A74 (N : Nat) (p : List Nat) := awp cfg (know (know74 N)) (drawOk cfg (know (know74 N))) Tryz.f74.ntmps lv74 (cd Tryz.f74 p)
theorem vc74 (N : Nat) (e : Edit) (t : Tree) (Q : AExit → LSt U → Prop) (h : ∀ y_1, y_1 = (e) → ∀ y_2, y_2 = (t) → ∀ y_3, y_3 = ((Edit.old e)) → (((((((Edit.kind e) : Int) == 0) = true → (Q .ret (⟨[(4, .ptr (.loc 4) 0), (5, .c (.bool true))], [((.loc 4), [.int .i64 (Tree.kind t), .slice (U := U) .u64 (Tree.words t) .unk, .slice (U := U) .tree (Tree.kids t) .unk])], []⟩ : LSt U))) ∧ ((((Edit.kind e) : Int) == 0) = false → (((((Edit.kind e) : Int) == 1) = true → (pre114 (y_3, y_2, ())) ∧ (Q .ret (⟨[(4, .ptr (.loc 4) 0), (5, .c (.bool (sameT (normT y_3) (normT y_2))))], [((.loc 4), [.int .i64 (Tree.kind (Edit.new e)), .slice (U := U) .u64 (Tree.words (Edit.new e)) .unk, .slice (U := U) .tree (Tree.kids (Edit.new e)) .unk])], []⟩ : LSt U))) ∧ ((((Edit.kind e) : Int) == 1) = false → (((((Edit.kind e) : Int) == 2) = true → (pre115 (y_1, y_2, ())) ∧ (mu115 (y_1, y_2, ()) < N) ∧ (Q .ret (⟨[(4, .ptr (.loc 4) 0), (5, .c (.bool ((strD false y_1 y_2).isSome)))], [((.loc 4), [.int .i64 (Tree.kind (orNil (strD false y_1 y_2))), .slice (U := U) .u64 (Tree.words (orNil (strD false y_1 y_2))) .unk, .slice (U := U) .tree (Tree.kids (orNil (strD false y_1 y_2))) .unk])], []⟩ : LSt U))) ∧ ((((Edit.kind e) : Int) == 2) = false → (((((Edit.kind e) : Int) == 3) = true → (pre116 (y_1, y_2, ())) ∧ (mu116 (y_1, y_2, ()) < N) ∧ (Q .ret (⟨[(4, .ptr (.loc 4) 0), (5, .c (.bool ((endD (lstD false y_1 y_2)).isSome)))], [((.loc 4), [.int .i64 (Tree.kind (lstT y_1 (lstD false y_1 y_2))), .slice (U := U) .u64 (Tree.words (lstT y_1 (lstD false y_1 y_2))) .unk, .slice (U := U) .tree (Tree.kids (lstT y_1 (lstD false y_1 y_2))) .unk])], []⟩ : LSt U))) ∧ ((((Edit.kind e) : Int) == 3) = false → (Q .ret (⟨[(4, .ptr (.loc 4) 0), (5, .c (.bool false))], [((.loc 4), [.int .i64 0, .nils, .nils])], []⟩ : LSt U))))))))))))) :
    A74 N [] (⟨[(0, .agg [.int .i64 (Edit.kind e), .int .i64 (Tree.kind (Edit.old e)), .slice (U := U) .u64 (Tree.words (Edit.old e)) .unk, .slice (U := U) .tree (Tree.kids (Edit.old e)) .unk, .int .i64 (Tree.kind (Edit.new e)), .slice (U := U) .u64 (Tree.words (Edit.new e)) .unk, .slice (U := U) .tree (Tree.kids (Edit.new e)) .unk, .slice (U := U) .wedit (Edit.words e) .unk, .slice (U := U) .kid (Edit.kids e) .unk, .int .i64 (Edit.list e), .slice (U := U) .op (Edit.ops e) .unk]), (1, .agg [.int .i64 (Tree.kind t), .slice (U := U) .u64 (Tree.words t) .unk, .slice (U := U) .tree (Tree.kids t) .unk])], [], []⟩ : LSt U) Q :=
  Eq.mpr (by kernel_rfl) (h _ (reEdit_eq _) _ (reTree_eq _) _ (reTree_eq _))
def Body74 (N : Nat) (e : Edit) (t : Tree)  : Prop := awp cfg (know (know74 N)) (drawOk cfg (know (know74 N))) Tryz.f74.ntmps lv74 (cd Tryz.f74 []) (entry (args74.can (e, t, ())) []) (EndsQ cfg Tryz.f74.ntmps Tryz.f74.results.toList (res74 (e, t, ())) [])
abbrev HB74 : Prop := ∀ (N : Nat) (e : Edit) (t : Tree) (_ : Unit), pre74 (e, t, ()) → mu74 (e, t, ()) < N + 1 → Body74 N e t
noncomputable def know115 (N : Nat) : List (FuncId × Fs U) := (74, fs args74 (fun a => [pre74 a, mu74 a < N]) res74) :: (115, fs args115 (fun a => [pre115 a, mu115 a < N]) res115) :: (116, fs args116 (fun a => [pre116 a, mu116 a < N]) res116) :: [(114, spec114), (173, spec173), (174, spec174), (177, spec177), (175, spec175), (176, spec176), (117, spec1117)]
def lv115 : Lives U := fun i => match i with
  | 0 => ([(2, []), (3, []), (4, [])], [((.loc 2), []), ((.loc 3), []), ((.loc 4), [])])
  | 1 => ([(2, []), (3, []), (4, []), (16, [])], [((.loc 2), []), ((.loc 3), []), ((.loc 4), [])])
  | 2 => ([(4, []), (5, [])], [((.loc 4), [])])
  | 3 => ([(2, []), (3, []), (4, []), (6, [])], [((.loc 2), []), ((.loc 3), []), ((.loc 4), []), ((.loc 6), [.any, .wr .u64, .wr .tree])])
  | 4 => ([(2, []), (3, []), (4, []), (6, []), (26, []), (27, []), (28, [])], [((.loc 2), []), ((.loc 3), []), ((.loc 4), []), ((.loc 6), [.any, .wr .u64, .wr .tree])])
  | 5 => ([(2, []), (3, []), (4, []), (6, []), (26, []), (27, []), (28, []), (29, [])], [((.loc 2), []), ((.loc 3), []), ((.loc 4), []), ((.loc 6), [.any, .wr .u64, .wr .tree])])
  | 6 => ([(2, []), (3, []), (4, []), (6, []), (8, []), (26, []), (27, []), (28, [])], [((.loc 2), []), ((.loc 3), []), ((.loc 4), []), ((.loc 6), [.any, .wr .u64, .wr .tree]), ((.loc 8), [])])
  | 7 => ([(2, []), (3, []), (4, []), (6, []), (8, []), (9, []), (26, []), (27, []), (28, [])], [((.loc 2), []), ((.loc 3), []), ((.loc 4), []), ((.loc 6), [.any, .wr .u64, .wr .tree]), ((.loc 8), [])])
  | 8 => ([(2, []), (3, []), (4, []), (6, []), (8, []), (9, []), (26, []), (27, []), (28, []), (42, [])], [((.loc 2), []), ((.loc 3), []), ((.loc 4), []), ((.loc 6), [.any, .wr .u64, .wr .tree]), ((.loc 8), [])])
  | 9 => ([(4, []), (5, [])], [((.loc 4), [])])
  | 10 => ([(2, []), (3, []), (4, []), (6, []), (8, []), (9, []), (26, []), (27, []), (28, []), (42, []), (49, [])], [((.loc 2), []), ((.loc 3), []), ((.loc 4), []), ((.loc 6), [.any, .wr .u64, .wr .tree]), ((.loc 8), [])])
  | 11 => ([(2, []), (3, []), (4, []), (6, []), (8, []), (9, []), (26, []), (27, []), (28, []), (42, [])], [((.loc 2), []), ((.loc 3), []), ((.loc 4), []), ((.loc 6), [.any, .wr .u64, .wr .tree]), ((.loc 8), [])])
  | 12 => ([(2, []), (3, []), (4, []), (6, []), (26, []), (27, []), (28, [])], [((.loc 2), []), ((.loc 3), []), ((.loc 4), []), ((.loc 6), [.any, .wr .u64, .wr .tree])])
  | 13 => ([(2, []), (3, []), (4, []), (6, []), (26, []), (27, []), (28, [])], [((.loc 2), []), ((.loc 3), []), ((.loc 4), []), ((.loc 6), [.any, .wr .u64, .wr .tree])])
  | 14 => ([(3, []), (4, []), (6, []), (68, []), (69, []), (70, [])], [((.loc 3), []), ((.loc 4), []), ((.loc 6), [.any, .wr .u64, .wr .tree])])
  | 15 => ([(3, []), (4, []), (6, []), (68, []), (69, []), (70, []), (71, [])], [((.loc 3), []), ((.loc 4), []), ((.loc 6), [.any, .wr .u64, .wr .tree])])
  | 16 => ([(3, []), (4, []), (6, []), (11, []), (68, []), (69, []), (70, [])], [((.loc 3), []), ((.loc 4), []), ((.loc 6), [.any, .wr .u64, .wr .tree]), ((.loc 11), [])])
  | 17 => ([(3, []), (4, []), (6, []), (11, []), (12, []), (13, []), (68, []), (69, []), (70, [])], [((.loc 3), []), ((.loc 4), []), ((.loc 6), [.any, .wr .u64, .wr .tree]), ((.loc 11), []), ((.loc 12), [])])
  | 18 => ([(3, []), (4, []), (6, []), (11, []), (12, []), (68, []), (69, []), (70, []), (85, [])], [((.loc 3), []), ((.loc 4), []), ((.loc 6), [.any, .wr .u64, .wr .tree]), ((.loc 11), []), ((.loc 12), [])])
  | 19 => ([(4, []), (5, [])], [((.loc 4), [])])
  | 20 => ([(3, []), (4, []), (6, []), (11, []), (12, []), (68, []), (69, []), (70, []), (85, []), (92, [])], [((.loc 3), []), ((.loc 4), []), ((.loc 6), [.any, .wr .u64, .wr .tree]), ((.loc 11), []), ((.loc 12), [])])
  | 21 => ([(3, []), (4, []), (6, []), (11, []), (12, []), (68, []), (69, []), (70, []), (85, [])], [((.loc 3), []), ((.loc 4), []), ((.loc 6), [.any, .wr .u64, .wr .tree]), ((.loc 11), []), ((.loc 12), [])])
  | 22 => ([(3, []), (4, []), (6, []), (68, []), (69, []), (70, [])], [((.loc 3), []), ((.loc 4), []), ((.loc 6), [.any, .wr .u64, .wr .tree])])
  | 23 => ([(3, []), (4, []), (6, []), (68, []), (69, []), (70, [])], [((.loc 3), []), ((.loc 4), []), ((.loc 6), [.any, .wr .u64, .wr .tree])])
  | 24 => ([(4, []), (5, [])], [((.loc 4), [])])
  | _ => ([], [])
noncomputable def head115_0 (e : Edit) (t : Tree) (x28 : Int) (rl_6_1 : List Int) : LSt U := (⟨[(2, .ptr (.loc 2) 0), (3, .ptr (.loc 3) 0), (4, .ptr (.loc 4) 0), (6, .ptr (.loc 6) 0), (26, .c (.slice (U := U) .wedit (Edit.words e) .unk)), (27, .c (.int .i64 ((Edit.words e).length : Int))), (28, .c (.int .i64 x28))], [((.loc 2), [.int .i64 (Edit.kind e), .int .i64 (Tree.kind (Edit.old e)), .slice (U := U) .u64 (Tree.words (Edit.old e)) .unk, .slice (U := U) .tree (Tree.kids (Edit.old e)) .unk, .int .i64 (Tree.kind (Edit.new e)), .slice (U := U) .u64 (Tree.words (Edit.new e)) .unk, .slice (U := U) .tree (Tree.kids (Edit.new e)) .unk, .slice (U := U) .wedit (Edit.words e) .unk, .slice (U := U) .kid (Edit.kids e) .unk, .int .i64 (Edit.list e), .slice (U := U) .op (Edit.ops e) .unk]), ((.loc 3), [.int .i64 (Tree.kind t), .slice (U := U) .u64 (Tree.words t) .unk, .slice (U := U) .tree (Tree.kids t) .unk]), ((.loc 4), [.int .i64 0, .nils, .nils]), ((.loc 6), [.int .i64 1, .mref (.l 6 1), .mref (.l 6 2)])], [(.l 6 1, LC.mk (U := U) .u64 rl_6_1 0), (.l 6 2, LC.mk (U := U) .tree (Tree.kids t) 0)]⟩ : LSt U)
noncomputable def head115_1 (e : Edit) (t : Tree) (x28 : Int) (rl_6_1_a : List Int) : LSt U := (⟨[(2, .ptr (.loc 2) 0), (3, .ptr (.loc 3) 0), (4, .ptr (.loc 4) 0), (6, .ptr (.loc 6) 0), (8, .ptr (.loc 8) 0), (9, .c (.int .u64 (wordAt (Tree.mk (Tree.kind t) (Tree.words t) (Tree.kids t)) (WEdit.at_ (List.getD (Edit.words e) (Int.toNat x28) (WEdit.mk 0 0 0 0)))))), (26, .c (.slice (U := U) .wedit (Edit.words e) .unk)), (27, .c (.int .i64 ((Edit.words e).length : Int))), (28, .c (.int .i64 x28)), (42, .c (.bool (((mix 0 (wordAt (Tree.mk (Tree.kind t) (Tree.words t) (Tree.kids t)) (WEdit.at_ (List.getD (Edit.words e) (Int.toNat x28) (WEdit.mk 0 0 0 0)))) (WEdit.mask (List.getD (Edit.words e) (Int.toNat x28) (WEdit.mk 0 0 0 0)))) : Int) != (WEdit.old (List.getD (Edit.words e) (Int.toNat x28) (WEdit.mk 0 0 0 0))))))], [((.loc 2), [.int .i64 (Edit.kind e), .int .i64 (Tree.kind (Edit.old e)), .slice (U := U) .u64 (Tree.words (Edit.old e)) .unk, .slice (U := U) .tree (Tree.kids (Edit.old e)) .unk, .int .i64 (Tree.kind (Edit.new e)), .slice (U := U) .u64 (Tree.words (Edit.new e)) .unk, .slice (U := U) .tree (Tree.kids (Edit.new e)) .unk, .slice (U := U) .wedit (Edit.words e) .unk, .slice (U := U) .kid (Edit.kids e) .unk, .int .i64 (Edit.list e), .slice (U := U) .op (Edit.ops e) .unk]), ((.loc 3), [.int .i64 (Tree.kind t), .slice (U := U) .u64 (Tree.words t) .unk, .slice (U := U) .tree (Tree.kids t) .unk]), ((.loc 4), [.int .i64 0, .nils, .nils]), ((.loc 6), [.int .i64 1, .mref (.l 6 1), .mref (.l 6 2)]), ((.loc 8), [.int .i64 (WEdit.at_ (List.getD (Edit.words e) (Int.toNat x28) (WEdit.mk 0 0 0 0))), .int .u8 (WEdit.mask (List.getD (Edit.words e) (Int.toNat x28) (WEdit.mk 0 0 0 0))), .int .u64 (WEdit.old (List.getD (Edit.words e) (Int.toNat x28) (WEdit.mk 0 0 0 0))), .int .u64 (WEdit.new (List.getD (Edit.words e) (Int.toNat x28) (WEdit.mk 0 0 0 0)))])], [(.l 6 1, LC.mk (U := U) .u64 rl_6_1_a 0), (.l 6 2, LC.mk (U := U) .tree (Tree.kids t) 0)]⟩ : LSt U)
noncomputable def head115_2 (e : Edit) (t : Tree) (rl_6_1 : List Int) (x70_b : Int) (rl_6_2_b : List Tree) : LSt U := (⟨[(3, .ptr (.loc 3) 0), (4, .ptr (.loc 4) 0), (6, .ptr (.loc 6) 0), (68, .c (.slice (U := U) .kid (Edit.kids e) .unk)), (69, .c (.int .i64 ((Edit.kids e).length : Int))), (70, .c (.int .i64 x70_b))], [((.loc 3), [.int .i64 (Tree.kind t), .slice (U := U) .u64 (Tree.words t) .unk, .slice (U := U) .tree (Tree.kids t) .unk]), ((.loc 4), [.int .i64 0, .nils, .nils]), ((.loc 6), [.int .i64 1, .mref (.l 6 1), .mref (.l 6 2)])], [(.l 6 1, LC.mk (U := U) .u64 rl_6_1 0), (.l 6 2, LC.mk (U := U) .tree rl_6_2_b 0)]⟩ : LSt U)
noncomputable def head115_3 (e : Edit) (t : Tree) (rl_6_1 : List Int) (x70_b : Int) (rl_6_2_c : List Tree) : LSt U := (⟨[(3, .ptr (.loc 3) 0), (4, .ptr (.loc 4) 0), (6, .ptr (.loc 6) 0), (11, .ptr (.loc 11) 0), (12, .ptr (.loc 12) 0), (68, .c (.slice (U := U) .kid (Edit.kids e) .unk)), (69, .c (.int .i64 ((Edit.kids e).length : Int))), (70, .c (.int .i64 x70_b)), (85, .c (.bool (!((doE false (Edit.mk (Edit.kind (KidOf.e (List.getD (Edit.kids e) (Int.toNat x70_b) (KidOf.mk 0 Edit.nil)))) (Tree.mk (Tree.kind (Edit.old (KidOf.e (List.getD (Edit.kids e) (Int.toNat x70_b) (KidOf.mk 0 Edit.nil))))) (Tree.words (Edit.old (KidOf.e (List.getD (Edit.kids e) (Int.toNat x70_b) (KidOf.mk 0 Edit.nil))))) (Tree.kids (Edit.old (KidOf.e (List.getD (Edit.kids e) (Int.toNat x70_b) (KidOf.mk 0 Edit.nil)))))) (Tree.mk (Tree.kind (Edit.new (KidOf.e (List.getD (Edit.kids e) (Int.toNat x70_b) (KidOf.mk 0 Edit.nil))))) (Tree.words (Edit.new (KidOf.e (List.getD (Edit.kids e) (Int.toNat x70_b) (KidOf.mk 0 Edit.nil))))) (Tree.kids (Edit.new (KidOf.e (List.getD (Edit.kids e) (Int.toNat x70_b) (KidOf.mk 0 Edit.nil)))))) (Edit.words (KidOf.e (List.getD (Edit.kids e) (Int.toNat x70_b) (KidOf.mk 0 Edit.nil)))) (Edit.kids (KidOf.e (List.getD (Edit.kids e) (Int.toNat x70_b) (KidOf.mk 0 Edit.nil)))) (Edit.list (KidOf.e (List.getD (Edit.kids e) (Int.toNat x70_b) (KidOf.mk 0 Edit.nil)))) (Edit.ops (KidOf.e (List.getD (Edit.kids e) (Int.toNat x70_b) (KidOf.mk 0 Edit.nil))))) (Tree.mk (Tree.kind (kidAt (Tree.mk (Tree.kind t) (Tree.words t) (Tree.kids t)) (KidOf.at_ (List.getD (Edit.kids e) (Int.toNat x70_b) (KidOf.mk 0 Edit.nil))))) (Tree.words (kidAt (Tree.mk (Tree.kind t) (Tree.words t) (Tree.kids t)) (KidOf.at_ (List.getD (Edit.kids e) (Int.toNat x70_b) (KidOf.mk 0 Edit.nil))))) (Tree.kids (kidAt (Tree.mk (Tree.kind t) (Tree.words t) (Tree.kids t)) (KidOf.at_ (List.getD (Edit.kids e) (Int.toNat x70_b) (KidOf.mk 0 Edit.nil))))))).isSome))))], [((.loc 3), [.int .i64 (Tree.kind t), .slice (U := U) .u64 (Tree.words t) .unk, .slice (U := U) .tree (Tree.kids t) .unk]), ((.loc 4), [.int .i64 0, .nils, .nils]), ((.loc 6), [.int .i64 1, .mref (.l 6 1), .mref (.l 6 2)]), ((.loc 11), [.int .i64 (KidOf.at_ (List.getD (Edit.kids e) (Int.toNat x70_b) (KidOf.mk 0 Edit.nil))), .int .i64 (Edit.kind (KidOf.e (List.getD (Edit.kids e) (Int.toNat x70_b) (KidOf.mk 0 Edit.nil)))), .int .i64 (Tree.kind (Edit.old (KidOf.e (List.getD (Edit.kids e) (Int.toNat x70_b) (KidOf.mk 0 Edit.nil))))), .slice (U := U) .u64 (Tree.words (Edit.old (KidOf.e (List.getD (Edit.kids e) (Int.toNat x70_b) (KidOf.mk 0 Edit.nil))))) .unk, .slice (U := U) .tree (Tree.kids (Edit.old (KidOf.e (List.getD (Edit.kids e) (Int.toNat x70_b) (KidOf.mk 0 Edit.nil))))) .unk, .int .i64 (Tree.kind (Edit.new (KidOf.e (List.getD (Edit.kids e) (Int.toNat x70_b) (KidOf.mk 0 Edit.nil))))), .slice (U := U) .u64 (Tree.words (Edit.new (KidOf.e (List.getD (Edit.kids e) (Int.toNat x70_b) (KidOf.mk 0 Edit.nil))))) .unk, .slice (U := U) .tree (Tree.kids (Edit.new (KidOf.e (List.getD (Edit.kids e) (Int.toNat x70_b) (KidOf.mk 0 Edit.nil))))) .unk, .slice (U := U) .wedit (Edit.words (KidOf.e (List.getD (Edit.kids e) (Int.toNat x70_b) (KidOf.mk 0 Edit.nil)))) .unk, .slice (U := U) .kid (Edit.kids (KidOf.e (List.getD (Edit.kids e) (Int.toNat x70_b) (KidOf.mk 0 Edit.nil)))) .unk, .int .i64 (Edit.list (KidOf.e (List.getD (Edit.kids e) (Int.toNat x70_b) (KidOf.mk 0 Edit.nil)))), .slice (U := U) .op (Edit.ops (KidOf.e (List.getD (Edit.kids e) (Int.toNat x70_b) (KidOf.mk 0 Edit.nil)))) .unk]), ((.loc 12), [.int .i64 (Tree.kind (oneT (Edit.mk (Edit.kind (KidOf.e (List.getD (Edit.kids e) (Int.toNat x70_b) (KidOf.mk 0 Edit.nil)))) (Tree.mk (Tree.kind (Edit.old (KidOf.e (List.getD (Edit.kids e) (Int.toNat x70_b) (KidOf.mk 0 Edit.nil))))) (Tree.words (Edit.old (KidOf.e (List.getD (Edit.kids e) (Int.toNat x70_b) (KidOf.mk 0 Edit.nil))))) (Tree.kids (Edit.old (KidOf.e (List.getD (Edit.kids e) (Int.toNat x70_b) (KidOf.mk 0 Edit.nil)))))) (Tree.mk (Tree.kind (Edit.new (KidOf.e (List.getD (Edit.kids e) (Int.toNat x70_b) (KidOf.mk 0 Edit.nil))))) (Tree.words (Edit.new (KidOf.e (List.getD (Edit.kids e) (Int.toNat x70_b) (KidOf.mk 0 Edit.nil))))) (Tree.kids (Edit.new (KidOf.e (List.getD (Edit.kids e) (Int.toNat x70_b) (KidOf.mk 0 Edit.nil)))))) (Edit.words (KidOf.e (List.getD (Edit.kids e) (Int.toNat x70_b) (KidOf.mk 0 Edit.nil)))) (Edit.kids (KidOf.e (List.getD (Edit.kids e) (Int.toNat x70_b) (KidOf.mk 0 Edit.nil)))) (Edit.list (KidOf.e (List.getD (Edit.kids e) (Int.toNat x70_b) (KidOf.mk 0 Edit.nil)))) (Edit.ops (KidOf.e (List.getD (Edit.kids e) (Int.toNat x70_b) (KidOf.mk 0 Edit.nil))))) (Tree.mk (Tree.kind (kidAt (Tree.mk (Tree.kind t) (Tree.words t) (Tree.kids t)) (KidOf.at_ (List.getD (Edit.kids e) (Int.toNat x70_b) (KidOf.mk 0 Edit.nil))))) (Tree.words (kidAt (Tree.mk (Tree.kind t) (Tree.words t) (Tree.kids t)) (KidOf.at_ (List.getD (Edit.kids e) (Int.toNat x70_b) (KidOf.mk 0 Edit.nil))))) (Tree.kids (kidAt (Tree.mk (Tree.kind t) (Tree.words t) (Tree.kids t)) (KidOf.at_ (List.getD (Edit.kids e) (Int.toNat x70_b) (KidOf.mk 0 Edit.nil)))))))), .slice (U := U) .u64 (Tree.words (oneT (Edit.mk (Edit.kind (KidOf.e (List.getD (Edit.kids e) (Int.toNat x70_b) (KidOf.mk 0 Edit.nil)))) (Tree.mk (Tree.kind (Edit.old (KidOf.e (List.getD (Edit.kids e) (Int.toNat x70_b) (KidOf.mk 0 Edit.nil))))) (Tree.words (Edit.old (KidOf.e (List.getD (Edit.kids e) (Int.toNat x70_b) (KidOf.mk 0 Edit.nil))))) (Tree.kids (Edit.old (KidOf.e (List.getD (Edit.kids e) (Int.toNat x70_b) (KidOf.mk 0 Edit.nil)))))) (Tree.mk (Tree.kind (Edit.new (KidOf.e (List.getD (Edit.kids e) (Int.toNat x70_b) (KidOf.mk 0 Edit.nil))))) (Tree.words (Edit.new (KidOf.e (List.getD (Edit.kids e) (Int.toNat x70_b) (KidOf.mk 0 Edit.nil))))) (Tree.kids (Edit.new (KidOf.e (List.getD (Edit.kids e) (Int.toNat x70_b) (KidOf.mk 0 Edit.nil)))))) (Edit.words (KidOf.e (List.getD (Edit.kids e) (Int.toNat x70_b) (KidOf.mk 0 Edit.nil)))) (Edit.kids (KidOf.e (List.getD (Edit.kids e) (Int.toNat x70_b) (KidOf.mk 0 Edit.nil)))) (Edit.list (KidOf.e (List.getD (Edit.kids e) (Int.toNat x70_b) (KidOf.mk 0 Edit.nil)))) (Edit.ops (KidOf.e (List.getD (Edit.kids e) (Int.toNat x70_b) (KidOf.mk 0 Edit.nil))))) (Tree.mk (Tree.kind (kidAt (Tree.mk (Tree.kind t) (Tree.words t) (Tree.kids t)) (KidOf.at_ (List.getD (Edit.kids e) (Int.toNat x70_b) (KidOf.mk 0 Edit.nil))))) (Tree.words (kidAt (Tree.mk (Tree.kind t) (Tree.words t) (Tree.kids t)) (KidOf.at_ (List.getD (Edit.kids e) (Int.toNat x70_b) (KidOf.mk 0 Edit.nil))))) (Tree.kids (kidAt (Tree.mk (Tree.kind t) (Tree.words t) (Tree.kids t)) (KidOf.at_ (List.getD (Edit.kids e) (Int.toNat x70_b) (KidOf.mk 0 Edit.nil)))))))) .unk, .slice (U := U) .tree (Tree.kids (oneT (Edit.mk (Edit.kind (KidOf.e (List.getD (Edit.kids e) (Int.toNat x70_b) (KidOf.mk 0 Edit.nil)))) (Tree.mk (Tree.kind (Edit.old (KidOf.e (List.getD (Edit.kids e) (Int.toNat x70_b) (KidOf.mk 0 Edit.nil))))) (Tree.words (Edit.old (KidOf.e (List.getD (Edit.kids e) (Int.toNat x70_b) (KidOf.mk 0 Edit.nil))))) (Tree.kids (Edit.old (KidOf.e (List.getD (Edit.kids e) (Int.toNat x70_b) (KidOf.mk 0 Edit.nil)))))) (Tree.mk (Tree.kind (Edit.new (KidOf.e (List.getD (Edit.kids e) (Int.toNat x70_b) (KidOf.mk 0 Edit.nil))))) (Tree.words (Edit.new (KidOf.e (List.getD (Edit.kids e) (Int.toNat x70_b) (KidOf.mk 0 Edit.nil))))) (Tree.kids (Edit.new (KidOf.e (List.getD (Edit.kids e) (Int.toNat x70_b) (KidOf.mk 0 Edit.nil)))))) (Edit.words (KidOf.e (List.getD (Edit.kids e) (Int.toNat x70_b) (KidOf.mk 0 Edit.nil)))) (Edit.kids (KidOf.e (List.getD (Edit.kids e) (Int.toNat x70_b) (KidOf.mk 0 Edit.nil)))) (Edit.list (KidOf.e (List.getD (Edit.kids e) (Int.toNat x70_b) (KidOf.mk 0 Edit.nil)))) (Edit.ops (KidOf.e (List.getD (Edit.kids e) (Int.toNat x70_b) (KidOf.mk 0 Edit.nil))))) (Tree.mk (Tree.kind (kidAt (Tree.mk (Tree.kind t) (Tree.words t) (Tree.kids t)) (KidOf.at_ (List.getD (Edit.kids e) (Int.toNat x70_b) (KidOf.mk 0 Edit.nil))))) (Tree.words (kidAt (Tree.mk (Tree.kind t) (Tree.words t) (Tree.kids t)) (KidOf.at_ (List.getD (Edit.kids e) (Int.toNat x70_b) (KidOf.mk 0 Edit.nil))))) (Tree.kids (kidAt (Tree.mk (Tree.kind t) (Tree.words t) (Tree.kids t)) (KidOf.at_ (List.getD (Edit.kids e) (Int.toNat x70_b) (KidOf.mk 0 Edit.nil)))))))) .unk])], [(.l 6 1, LC.mk (U := U) .u64 rl_6_1 0), (.l 6 2, LC.mk (U := U) .tree rl_6_2_c 0)]⟩ : LSt U)
noncomputable abbrev A115 (N : Nat) (p : List Nat) := awp cfg (know (know115 N)) (drawOk cfg (know (know115 N))) Tryz.f115.ntmps lv115 (cd Tryz.f115 p)
noncomputable abbrev S115 (N : Nat) (p : List Nat) := seqK cfg (know (know115 N)) (drawOk cfg (know (know115 N))) Tryz.f115.ntmps lv115 (cd Tryz.f115 p)
theorem vc115 (N : Nat) (e : Edit) (t : Tree) (Q : AExit → LSt U → Prop) (h : ((((((Tree.kind t) : Int) != 1) = true → (Q .ret (⟨[(4, .ptr (.loc 4) 0), (5, .c (.bool false))], [((.loc 4), [.int .i64 0, .nils, .nils])], []⟩ : LSt U))) ∧ ((((Tree.kind t) : Int) != 1) = false → (pre1117 ((Tree.words t), ())) ∧ (pre175 ((Tree.kids t), ())) ∧ ((LoopWp (A115 N [1, 1, 1, 0, 1, 0, 0]) (head115_0 e t 0 (Tree.words t)) (AExit.inBlock 0 (S115 N [1, 1, 1, 1] Q)))))))) :
    A115 N [] (⟨[(0, .agg [.int .i64 (Edit.kind e), .int .i64 (Tree.kind (Edit.old e)), .slice (U := U) .u64 (Tree.words (Edit.old e)) .unk, .slice (U := U) .tree (Tree.kids (Edit.old e)) .unk, .int .i64 (Tree.kind (Edit.new e)), .slice (U := U) .u64 (Tree.words (Edit.new e)) .unk, .slice (U := U) .tree (Tree.kids (Edit.new e)) .unk, .slice (U := U) .wedit (Edit.words e) .unk, .slice (U := U) .kid (Edit.kids e) .unk, .int .i64 (Edit.list e), .slice (U := U) .op (Edit.ops e) .unk]), (1, .agg [.int .i64 (Tree.kind t), .slice (U := U) .u64 (Tree.words t) .unk, .slice (U := U) .tree (Tree.kids t) .unk])], [], []⟩ : LSt U) Q :=
  Eq.mpr (by kernel_rfl) h
theorem vc115_l0 (N : Nat) (e : Edit) (t : Tree) (x28 : Int) (rl_6_1 : List Int) (N0 : LSt U → Prop) (Q : AExit → LSt U → Prop) (h : ∀ y_1, y_1 = (t) → ∀ y_2, y_2 = (List.getD (Edit.words e) (Int.toNat x28) (WEdit.mk 0 0 0 0)) → (((decide ((x28 : Int) < ((Edit.words e).length : Int))) = true → ((0 : Int) ≤ x28 ∧ x28 < ((Edit.words e).length : Int)) ∧ ((pre173 (y_1, (WEdit.at_ y_2), ())) ∧ ((pre176 (0, (wordAt y_1 (WEdit.at_ y_2)), (WEdit.mask y_2), ())) ∧ (((((mix 0 (wordAt y_1 (WEdit.at_ y_2)) (WEdit.mask y_2)) : Int) != (WEdit.old y_2)) = true → (Q .ret (⟨[(4, .ptr (.loc 4) 0), (5, .c (.bool false))], [((.loc 4), [.int .i64 0, .nils, .nils])], []⟩ : LSt U))) ∧ ((((mix 0 (wordAt y_1 (WEdit.at_ y_2)) (WEdit.mask y_2)) : Int) != (WEdit.old y_2)) = false → LoopWp (A115 N [1, 1, 1, 0, 1, 0, 0, 1, 1, 0, 0, 1, 1, 1, 0, 0, 0]) (head115_1 e t x28 rl_6_1) (AExit.inBlock 2 (S115 N [1, 1, 1, 0, 1, 0, 0, 1, 1, 0, 0, 1, 1, 1, 1] (AExit.inBlock 1 (S115 N [1, 1, 1, 0, 1, 0, 0, 1, 1, 1] (AExit.then N0 (AExit.inBlock 0 (S115 N [1, 1, 1, 1] Q)))))))))))) ∧ ((decide ((x28 : Int) < ((Edit.words e).length : Int))) = false → (LoopWp (A115 N [1, 1, 1, 1, 0, 1, 0, 0]) (head115_2 e t rl_6_1 0 (Tree.kids t)) (AExit.inBlock 4 (S115 N [1, 1, 1, 1, 1] Q)))))) :
    A115 N [1, 1, 1, 0, 1, 0, 0] (head115_0 e t x28 rl_6_1) (AExit.then N0 (AExit.inBlock 0 (S115 N [1, 1, 1, 1] Q))) :=
  Eq.mpr (by kernel_rfl) (h _ (reTree_eq _) _ rfl)
theorem vc115_l1 (N : Nat) (e : Edit) (t : Tree) (x28 : Int) (rl_6_1_a : List Int) (N1 : LSt U → Prop) (N0 : LSt U → Prop) (Q : AExit → LSt U → Prop) (h : (((decide (((rl_6_1_a.length : Int) : Int) ≤ (WEdit.at_ (List.getD (Edit.words e) (Int.toNat x28) (WEdit.mk 0 0 0 0))))) = true → ((rl_6_1_a.length + ([0]).length) * 8 ≤ 140737488355328) ∧ (N1 (head115_1 e t x28 (rl_6_1_a ++ ([0]))))) ∧ ((decide (((rl_6_1_a.length : Int) : Int) ≤ (WEdit.at_ (List.getD (Edit.words e) (Int.toNat x28) (WEdit.mk 0 0 0 0))))) = false → (pre176 ((wordAt (Tree.mk (Tree.kind t) (Tree.words t) (Tree.kids t)) (WEdit.at_ (List.getD (Edit.words e) (Int.toNat x28) (WEdit.mk 0 0 0 0)))), (WEdit.new (List.getD (Edit.words e) (Int.toNat x28) (WEdit.mk 0 0 0 0))), (WEdit.mask (List.getD (Edit.words e) (Int.toNat x28) (WEdit.mk 0 0 0 0))), ())) ∧ ((0 : Int) ≤ (WEdit.at_ (List.getD (Edit.words e) (Int.toNat x28) (WEdit.mk 0 0 0 0))) ∧ (WEdit.at_ (List.getD (Edit.words e) (Int.toNat x28) (WEdit.mk 0 0 0 0))) < (rl_6_1_a.length : Int)) ∧ ((0 : Nat) ≤ (Int.toNat (WEdit.at_ (List.getD (Edit.words e) (Int.toNat x28) (WEdit.mk 0 0 0 0))))) ∧ ((InR ((x28 : Int) + 1)) ∧ (N0 (head115_0 e t ((x28 : Int) + 1) (List.set rl_6_1_a (Int.toNat (WEdit.at_ (List.getD (Edit.words e) (Int.toNat x28) (WEdit.mk 0 0 0 0)))) (mix (wordAt (Tree.mk (Tree.kind t) (Tree.words t) (Tree.kids t)) (WEdit.at_ (List.getD (Edit.words e) (Int.toNat x28) (WEdit.mk 0 0 0 0)))) (WEdit.new (List.getD (Edit.words e) (Int.toNat x28) (WEdit.mk 0 0 0 0))) (WEdit.mask (List.getD (Edit.words e) (Int.toNat x28) (WEdit.mk 0 0 0 0))))))))))) :
    A115 N [1, 1, 1, 0, 1, 0, 0, 1, 1, 0, 0, 1, 1, 1, 0, 0, 0] (head115_1 e t x28 rl_6_1_a) (AExit.then N1 (AExit.inBlock 2 (S115 N [1, 1, 1, 0, 1, 0, 0, 1, 1, 0, 0, 1, 1, 1, 1] (AExit.inBlock 1 (S115 N [1, 1, 1, 0, 1, 0, 0, 1, 1, 1] (AExit.then N0 (AExit.inBlock 0 (S115 N [1, 1, 1, 1] Q)))))))) :=
  Eq.mpr (by kernel_rfl) h
theorem vc115_l2 (N : Nat) (e : Edit) (t : Tree) (rl_6_1 : List Int) (x70_b : Int) (rl_6_2_b : List Tree) (N2 : LSt U → Prop) (Q : AExit → LSt U → Prop) (h : ∀ y_1, y_1 = (t) → ∀ y_2, y_2 = (List.getD (Edit.kids e) (Int.toNat x70_b) (KidOf.mk 0 Edit.nil)) → ∀ y_3, y_3 = ((KidOf.e y_2)) → ∀ y_4, y_4 = ((kidAt y_1 (KidOf.at_ y_2))) → (((decide ((x70_b : Int) < ((Edit.kids e).length : Int))) = true → ((0 : Int) ≤ x70_b ∧ x70_b < ((Edit.kids e).length : Int)) ∧ ((pre174 (y_1, (KidOf.at_ y_2), ())) ∧ (pre74 (y_3, y_4, ())) ∧ (mu74 (y_3, y_4, ()) < N) ∧ ((((!((doE false y_3 y_4).isSome)) = true → (Q .ret (⟨[(4, .ptr (.loc 4) 0), (5, .c (.bool false))], [((.loc 4), [.int .i64 0, .nils, .nils])], []⟩ : LSt U))) ∧ ((!((doE false y_3 y_4).isSome)) = false → LoopWp (A115 N [1, 1, 1, 1, 0, 1, 0, 0, 1, 1, 0, 0, 1, 1, 1, 0, 0, 0]) (head115_3 e t rl_6_1 x70_b rl_6_2_b) (AExit.inBlock 6 (S115 N [1, 1, 1, 1, 0, 1, 0, 0, 1, 1, 0, 0, 1, 1, 1, 1] (AExit.inBlock 5 (S115 N [1, 1, 1, 1, 0, 1, 0, 0, 1, 1, 1] (AExit.then N2 (AExit.inBlock 4 (S115 N [1, 1, 1, 1, 1] Q)))))))))))) ∧ ((decide ((x70_b : Int) < ((Edit.kids e).length : Int))) = false → (Q .ret (⟨[(4, .ptr (.loc 4) 0), (5, .c (.bool true))], [((.loc 4), [.int .i64 1, .slice (U := U) .u64 rl_6_1 (.own (.l 4 1)), .slice (U := U) .tree rl_6_2_b (.own (.l 4 2))])], []⟩ : LSt U))))) :
    A115 N [1, 1, 1, 1, 0, 1, 0, 0] (head115_2 e t rl_6_1 x70_b rl_6_2_b) (AExit.then N2 (AExit.inBlock 4 (S115 N [1, 1, 1, 1, 1] Q))) :=
  Eq.mpr (by kernel_rfl) (h _ (reTree_eq _) _ rfl _ (reEdit_eq _) _ (reTree_eq _))
theorem vc115_l3 (N : Nat) (e : Edit) (t : Tree) (rl_6_1 : List Int) (x70_b : Int) (rl_6_2_c : List Tree) (N3 : LSt U → Prop) (N2 : LSt U → Prop) (Q : AExit → LSt U → Prop) (h : ∀ y_1, y_1 = (t) → ∀ y_2, y_2 = (List.getD (Edit.kids e) (Int.toNat x70_b) (KidOf.mk 0 Edit.nil)) → ∀ y_3, y_3 = ((KidOf.e y_2)) → ∀ y_4, y_4 = ((kidAt y_1 (KidOf.at_ y_2))) → ∀ y_5, y_5 = ((oneT y_3 y_4)) → (((decide (((rl_6_2_c.length : Int) : Int) ≤ (KidOf.at_ y_2))) = true → ((rl_6_2_c.length + ([(Tree.mk 0 ([]) ([]))]).length) * 56 ≤ 140737488355328) ∧ (N3 (head115_3 e t rl_6_1 x70_b (rl_6_2_c ++ ([(Tree.mk 0 ([]) ([]))]))))) ∧ ((decide (((rl_6_2_c.length : Int) : Int) ≤ (KidOf.at_ y_2))) = false → ((0 : Int) ≤ (KidOf.at_ y_2) ∧ (KidOf.at_ y_2) < (rl_6_2_c.length : Int)) ∧ ((0 : Nat) ≤ (Int.toNat (KidOf.at_ y_2))) ∧ ((InR ((x70_b : Int) + 1)) ∧ (N2 (head115_2 e t rl_6_1 ((x70_b : Int) + 1) (List.set rl_6_2_c (Int.toNat (KidOf.at_ y_2)) y_5))))))) :
    A115 N [1, 1, 1, 1, 0, 1, 0, 0, 1, 1, 0, 0, 1, 1, 1, 0, 0, 0] (head115_3 e t rl_6_1 x70_b rl_6_2_c) (AExit.then N3 (AExit.inBlock 6 (S115 N [1, 1, 1, 1, 0, 1, 0, 0, 1, 1, 0, 0, 1, 1, 1, 1] (AExit.inBlock 5 (S115 N [1, 1, 1, 1, 0, 1, 0, 0, 1, 1, 1] (AExit.then N2 (AExit.inBlock 4 (S115 N [1, 1, 1, 1, 1] Q)))))))) :=
  Eq.mpr (by kernel_rfl) (h _ (reTree_eq _) _ rfl _ (reEdit_eq _) _ (reTree_eq _) _ (reTree_eq _))
def Body115 (N : Nat) (e : Edit) (t : Tree)  : Prop := awp cfg (know (know115 N)) (drawOk cfg (know (know115 N))) Tryz.f115.ntmps lv115 (cd Tryz.f115 []) (entry (args115.can (e, t, ())) []) (EndsQ cfg Tryz.f115.ntmps Tryz.f115.results.toList (res115 (e, t, ())) [])
abbrev HB115 : Prop := ∀ (N : Nat) (e : Edit) (t : Tree) (_ : Unit), pre115 (e, t, ()) → mu115 (e, t, ()) < N + 1 → Body115 N e t
noncomputable def know116 (N : Nat) : List (FuncId × Fs U) := (74, fs args74 (fun a => [pre74 a, mu74 a < N]) res74) :: (115, fs args115 (fun a => [pre115 a, mu115 a < N]) res115) :: (116, fs args116 (fun a => [pre116 a, mu116 a < N]) res116) :: [(114, spec114), (173, spec173), (174, spec174), (177, spec177), (175, spec175), (176, spec176), (117, spec1117)]
def lv116 : Lives U := fun i => match i with
  | 0 => ([(2, []), (3, []), (4, [])], [((.loc 2), []), ((.loc 3), []), ((.loc 4), [])])
  | 1 => ([(2, []), (3, []), (4, []), (18, [])], [((.loc 2), []), ((.loc 3), []), ((.loc 4), [])])
  | 2 => ([(4, []), (5, [])], [((.loc 4), [])])
  | 3 => ([(2, []), (3, []), (4, []), (6, [])], [((.loc 2), []), ((.loc 3), []), ((.loc 4), []), ((.loc 6), [])])
  | 4 => ([(2, []), (4, []), (6, []), (7, [])], [((.loc 2), []), ((.loc 4), []), ((.loc 6), [])])
  | 5 => ([(4, []), (6, []), (7, []), (26, []), (27, []), (28, [])], [((.loc 4), []), ((.loc 6), [.any, .any, .own .tree])])
  | 6 => ([(4, []), (6, []), (7, []), (26, []), (27, []), (28, []), (29, [])], [((.loc 4), []), ((.loc 6), [])])
  | 7 => ([(4, []), (6, []), (7, []), (9, []), (26, []), (27, []), (28, [])], [((.loc 4), []), ((.loc 6), []), ((.loc 9), [])])
  | 8 => ([(4, []), (6, []), (7, []), (9, []), (10, []), (26, []), (27, []), (28, [])], [((.loc 4), []), ((.loc 6), []), ((.loc 9), [])])
  | 9 => ([(4, []), (6, []), (7, []), (9, []), (10, []), (26, []), (27, []), (28, []), (35, [])], [((.loc 4), []), ((.loc 6), []), ((.loc 9), [])])
  | 10 => ([(4, []), (6, []), (7, []), (9, []), (10, []), (26, []), (27, []), (28, []), (35, []), (36, [])], [((.loc 4), []), ((.loc 6), []), ((.loc 9), [])])
  | 11 => ([(4, []), (6, []), (7, []), (26, []), (27, []), (28, []), (97, [])], [((.loc 4), []), ((.loc 6), [])])
  | 12 => ([(4, []), (6, []), (7, []), (9, []), (10, []), (26, []), (27, []), (28, []), (35, []), (44, [])], [((.loc 4), []), ((.loc 6), []), ((.loc 9), [])])
  | 13 => ([(4, []), (6, []), (7, []), (9, []), (10, []), (26, []), (27, []), (28, []), (49, [])], [((.loc 4), []), ((.loc 6), []), ((.loc 9), [])])
  | 14 => ([(4, []), (6, []), (7, []), (9, []), (10, []), (26, []), (27, []), (28, []), (49, [])], [((.loc 4), []), ((.loc 6), []), ((.loc 9), [])])
  | 15 => ([(4, []), (6, []), (7, []), (9, []), (10, []), (26, []), (27, []), (28, []), (49, [])], [((.loc 4), []), ((.loc 6), []), ((.loc 9), [])])
  | 16 => ([(4, []), (6, []), (7, []), (9, []), (10, []), (26, []), (27, []), (28, []), (54, [])], [((.loc 4), []), ((.loc 6), []), ((.loc 9), [])])
  | 17 => ([(4, []), (5, [])], [((.loc 4), [])])
  | 18 => ([(4, []), (6, []), (7, []), (9, []), (10, []), (26, []), (27, []), (28, [])], [((.loc 4), []), ((.loc 6), []), ((.loc 9), [])])
  | 19 => ([(4, []), (6, []), (7, []), (9, []), (11, []), (26, []), (27, []), (28, [])], [((.loc 4), []), ((.loc 6), []), ((.loc 9), [])])
  | 20 => ([(4, []), (6, []), (7, []), (12, []), (13, []), (26, []), (27, []), (28, [])], [((.loc 4), []), ((.loc 6), []), ((.loc 12), [])])
  | 21 => ([(4, []), (6, []), (7, []), (12, []), (26, []), (27, []), (28, []), (72, [])], [((.loc 4), []), ((.loc 6), []), ((.loc 12), [])])
  | 22 => ([(4, []), (5, [])], [((.loc 4), [])])
  | 23 => ([(4, []), (6, []), (7, []), (26, []), (27, []), (28, []), (97, [])], [((.loc 4), []), ((.loc 6), [])])
  | 24 => ([(4, []), (6, []), (7, []), (9, []), (11, []), (26, []), (27, []), (28, []), (80, [])], [((.loc 4), []), ((.loc 6), []), ((.loc 9), [])])
  | 25 => ([(4, []), (6, []), (7, []), (26, []), (27, []), (28, []), (97, [])], [((.loc 4), []), ((.loc 6), [])])
  | 26 => ([(4, []), (6, []), (7, []), (9, []), (11, []), (26, []), (27, []), (28, []), (89, [])], [((.loc 4), []), ((.loc 6), []), ((.loc 9), [])])
  | 27 => ([(4, []), (6, []), (7, []), (26, []), (27, []), (28, []), (97, [])], [((.loc 4), []), ((.loc 6), [])])
  | 28 => ([(4, []), (5, [])], [((.loc 4), [])])
  | 29 => ([(4, []), (6, []), (7, []), (26, []), (27, []), (28, [])], [((.loc 4), []), ((.loc 6), [.any, .any, .own .tree])])
  | 30 => ([(4, []), (5, [])], [((.loc 4), [])])
  | _ => ([], [])
noncomputable def head116_0 (e : Edit) (t : Tree) (x28 : Int) (x7 : List Tree) (ml6_2 : List Tree) : LSt U := (⟨[(4, .ptr (.loc 4) 0), (6, .ptr (.loc 6) 0), (7, .c (.slice (U := U) .tree x7 .unk)), (26, .c (.slice (U := U) .op (Edit.ops e) .unk)), (27, .c (.int .i64 ((Edit.ops e).length : Int))), (28, .c (.int .i64 x28))], [((.loc 4), [.int .i64 0, .nils, .nils]), ((.loc 6), [.int .i64 (Tree.kind t), .nils, .slice (U := U) .tree ml6_2 (.own (.l 6 2))])], []⟩ : LSt U)
noncomputable def head116_1 (e : Edit) (t : Tree) (x28 : Int) (x7_a : List Tree) (ml6_2_a : List Tree) (v97_a : V U) : LSt U := (⟨[(4, .ptr (.loc 4) 0), (6, .ptr (.loc 6) 0), (7, .c (.slice (U := U) .tree x7_a .unk)), (26, .c (.slice (U := U) .op (Edit.ops e) .unk)), (27, .c (.int .i64 ((Edit.ops e).length : Int))), (28, .c (.int .i64 x28)), (97, v97_a)], [((.loc 4), [.int .i64 0, .nils, .nils]), ((.loc 6), [.int .i64 (Tree.kind t), .nils, .slice (U := U) .tree ml6_2_a (.own (.l 6 2))])], []⟩ : LSt U)
noncomputable def head116_2 (e : Edit) (t : Tree) (x28 : Int) (x7 : List Tree) (ml6_2 : List Tree) (x10_b : Int) (v49_b : V U) : LSt U := (⟨[(4, .ptr (.loc 4) 0), (6, .ptr (.loc 6) 0), (7, .c (.slice (U := U) .tree x7 .unk)), (9, .ptr (.loc 9) 0), (10, .c (.int .i64 x10_b)), (26, .c (.slice (U := U) .op (Edit.ops e) .unk)), (27, .c (.int .i64 ((Edit.ops e).length : Int))), (28, .c (.int .i64 x28)), (49, v49_b)], [((.loc 4), [.int .i64 0, .nils, .nils]), ((.loc 6), [.int .i64 (Tree.kind t), .nils, .slice (U := U) .tree ml6_2 (.own (.l 6 2))]), ((.loc 9), [.int .i64 (OpOf.kind (List.getD (Edit.ops e) (Int.toNat x28) Op.nil)), .int .i64 (OpOf.n (List.getD (Edit.ops e) (Int.toNat x28) Op.nil)), .slice (U := U) .tree (OpOf.l (List.getD (Edit.ops e) (Int.toNat x28) Op.nil)) .unk, .int .i64 (Edit.kind (OpOf.e (List.getD (Edit.ops e) (Int.toNat x28) Op.nil))), .int .i64 (Tree.kind (Edit.old (OpOf.e (List.getD (Edit.ops e) (Int.toNat x28) Op.nil)))), .slice (U := U) .u64 (Tree.words (Edit.old (OpOf.e (List.getD (Edit.ops e) (Int.toNat x28) Op.nil)))) .unk, .slice (U := U) .tree (Tree.kids (Edit.old (OpOf.e (List.getD (Edit.ops e) (Int.toNat x28) Op.nil)))) .unk, .int .i64 (Tree.kind (Edit.new (OpOf.e (List.getD (Edit.ops e) (Int.toNat x28) Op.nil)))), .slice (U := U) .u64 (Tree.words (Edit.new (OpOf.e (List.getD (Edit.ops e) (Int.toNat x28) Op.nil)))) .unk, .slice (U := U) .tree (Tree.kids (Edit.new (OpOf.e (List.getD (Edit.ops e) (Int.toNat x28) Op.nil)))) .unk, .slice (U := U) .wedit (Edit.words (OpOf.e (List.getD (Edit.ops e) (Int.toNat x28) Op.nil))) .unk, .slice (U := U) .kid (Edit.kids (OpOf.e (List.getD (Edit.ops e) (Int.toNat x28) Op.nil))) .unk, .int .i64 (Edit.list (OpOf.e (List.getD (Edit.ops e) (Int.toNat x28) Op.nil))), .slice (U := U) .op (Edit.ops (OpOf.e (List.getD (Edit.ops e) (Int.toNat x28) Op.nil))) .unk])], []⟩ : LSt U)
noncomputable abbrev A116 (N : Nat) (p : List Nat) := awp cfg (know (know116 N)) (drawOk cfg (know (know116 N))) Tryz.f116.ntmps lv116 (cd Tryz.f116 p)
noncomputable abbrev S116 (N : Nat) (p : List Nat) := seqK cfg (know (know116 N)) (drawOk cfg (know (know116 N))) Tryz.f116.ntmps lv116 (cd Tryz.f116 p)
theorem vc116 (N : Nat) (e : Edit) (t : Tree) (Q : AExit → LSt U → Prop) (h : ((((((Tree.kind t) : Int) != (Edit.list e)) = true → (Q .ret (⟨[(4, .ptr (.loc 4) 0), (5, .c (.bool false))], [((.loc 4), [.int .i64 0, .nils, .nils])], []⟩ : LSt U))) ∧ ((((Tree.kind t) : Int) != (Edit.list e)) = false → (((LoopWp (A116 N [1, 1, 1, 1, 0, 1, 0, 0]) (head116_0 e t 0 (Tree.kids t) ([])) (AExit.inBlock 0 (S116 N [1, 1, 1, 1, 1] Q))))))))) :
    A116 N [] (⟨[(0, .agg [.int .i64 (Edit.kind e), .int .i64 (Tree.kind (Edit.old e)), .slice (U := U) .u64 (Tree.words (Edit.old e)) .unk, .slice (U := U) .tree (Tree.kids (Edit.old e)) .unk, .int .i64 (Tree.kind (Edit.new e)), .slice (U := U) .u64 (Tree.words (Edit.new e)) .unk, .slice (U := U) .tree (Tree.kids (Edit.new e)) .unk, .slice (U := U) .wedit (Edit.words e) .unk, .slice (U := U) .kid (Edit.kids e) .unk, .int .i64 (Edit.list e), .slice (U := U) .op (Edit.ops e) .unk]), (1, .agg [.int .i64 (Tree.kind t), .slice (U := U) .u64 (Tree.words t) .unk, .slice (U := U) .tree (Tree.kids t) .unk])], [], []⟩ : LSt U) Q :=
  Eq.mpr (by kernel_rfl) h
theorem vc116_l0 (N : Nat) (e : Edit) (t : Tree) (x28 : Int) (x7 : List Tree) (ml6_2 : List Tree) (N0 : LSt U → Prop) (Q : AExit → LSt U → Prop) (h : ∀ y_1, y_1 = (List.getD (Edit.ops e) (Int.toNat x28) Op.nil) → (((decide ((x28 : Int) < ((Edit.ops e).length : Int))) = true → ((0 : Int) ≤ x28 ∧ x28 < ((Edit.ops e).length : Int)) ∧ ((((((((OpOf.kind y_1) : Int) == 2) = true → ((ml6_2.length + (OpOf.l y_1).length) * 56 ≤ 140737488355328) ∧ (A116 N [1, 1, 1, 1, 0, 1, 0, 0, 1, 1, 1] (head116_1 e t x28 x7 (ml6_2 ++ (OpOf.l y_1)) .junk) (AExit.then N0 (AExit.inBlock 0 (S116 N [1, 1, 1, 1, 1] Q))))) ∧ ((((OpOf.kind y_1) : Int) == 2) = false → (((((OpOf.kind y_1) : Int) == 1) = true → (A116 N [1, 1, 1, 1, 0, 1, 0, 0, 1, 1, 0, 0, 1, 1, 1] (head116_2 e t x28 x7 ml6_2 ((OpOf.l y_1).length : Int) .junk) (AExit.inBlock 1 (S116 N [1, 1, 1, 1, 0, 1, 0, 0, 1, 1, 1] (AExit.then N0 (AExit.inBlock 0 (S116 N [1, 1, 1, 1, 1] Q))))))) ∧ ((((OpOf.kind y_1) : Int) == 1) = false → (((((OpOf.kind y_1) : Int) == 3) = true → (A116 N [1, 1, 1, 1, 0, 1, 0, 0, 1, 1, 0, 0, 1, 1, 1] (head116_2 e t x28 x7 ml6_2 1 (.c (.bool (((OpOf.kind y_1) : Int) == 3)))) (AExit.inBlock 1 (S116 N [1, 1, 1, 1, 0, 1, 0, 0, 1, 1, 1] (AExit.then N0 (AExit.inBlock 0 (S116 N [1, 1, 1, 1, 1] Q))))))) ∧ ((((OpOf.kind y_1) : Int) == 3) = false → A116 N [1, 1, 1, 1, 0, 1, 0, 0, 1, 1, 0, 0, 1, 1, 1] (head116_2 e t x28 x7 ml6_2 (OpOf.n y_1) (.c (.bool (((OpOf.kind y_1) : Int) == 3)))) (AExit.inBlock 1 (S116 N [1, 1, 1, 1, 0, 1, 0, 0, 1, 1, 1] (AExit.then N0 (AExit.inBlock 0 (S116 N [1, 1, 1, 1, 1] Q))))))))))))))) ∧ ((decide ((x28 : Int) < ((Edit.ops e).length : Int))) = false → (Q .ret (⟨[(4, .ptr (.loc 4) 0), (5, .c (.bool (((x7.length : Int) : Int) == 0)))], [((.loc 4), [.int .i64 (Tree.kind t), .nils, .slice (U := U) .tree ml6_2 (.own (.l 4 2))])], []⟩ : LSt U))))) :
    A116 N [1, 1, 1, 1, 0, 1, 0, 0] (head116_0 e t x28 x7 ml6_2) (AExit.then N0 (AExit.inBlock 0 (S116 N [1, 1, 1, 1, 1] Q))) :=
  Eq.mpr (by kernel_rfl) (h _ rfl)
theorem vc116_c1 (N : Nat) (e : Edit) (t : Tree) (x28 : Int) (x7_a : List Tree) (ml6_2_a : List Tree) (v97_a : V U) (N0 : LSt U → Prop) (Q : AExit → LSt U → Prop) (h : (InR ((x28 : Int) + 1)) ∧ (N0 (head116_0 e t ((x28 : Int) + 1) x7_a ml6_2_a))) :
    A116 N [1, 1, 1, 1, 0, 1, 0, 0, 1, 1, 1] (head116_1 e t x28 x7_a ml6_2_a v97_a) (AExit.then N0 (AExit.inBlock 0 (S116 N [1, 1, 1, 1, 1] Q))) :=
  Eq.mpr (by kernel_rfl) h
theorem vc116_c2 (N : Nat) (e : Edit) (t : Tree) (x28 : Int) (x7 : List Tree) (ml6_2 : List Tree) (x10_b : Int) (v49_b : V U) (N0 : LSt U → Prop) (Q : AExit → LSt U → Prop) (h : ∀ y_1, y_1 = (List.getD (Edit.ops e) (Int.toNat x28) Op.nil) → ∀ y_2, y_2 = (List.getD (List.take (Int.toNat x10_b) x7) (Int.toNat 0) Tree.nil) → ∀ y_3, y_3 = (y_2) → ∀ y_4, y_4 = ((OpOf.e y_1)) → ∀ y_5, y_5 = (eqX (normsT (OpOf.l y_1)) (normsT (List.take (Int.toNat x10_b) x7))) → ∀ y_6, y_6 = ((oneT y_4 y_3)) → (((decide (((x7.length : Int) : Int) < x10_b)) = true → (Q .ret (⟨[(4, .ptr (.loc 4) 0), (5, .c (.bool false))], [((.loc 4), [.int .i64 0, .nils, .nils])], []⟩ : LSt U))) ∧ ((decide (((x7.length : Int) : Int) < x10_b)) = false → (((0 : Int) ≤ x10_b ∧ x10_b ≤ (x7.length : Int)) ∧ ((0 : Int) ≤ x10_b ∧ x10_b ≤ (x7.length : Int)) ∧ ((((((OpOf.kind y_1) : Int) == 0) = true → ((ml6_2.length + (List.take (Int.toNat x10_b) x7).length) * 56 ≤ 140737488355328) ∧ (A116 N [1, 1, 1, 1, 0, 1, 0, 0, 1, 1, 1] (head116_1 e t x28 (List.drop (Int.toNat x10_b) x7) (ml6_2 ++ (List.take (Int.toNat x10_b) x7)) .junk) (AExit.then N0 (AExit.inBlock 0 (S116 N [1, 1, 1, 1, 1] Q))))) ∧ ((((OpOf.kind y_1) : Int) == 0) = false → (((((OpOf.kind y_1) : Int) == 1) = true → (pre177 ((OpOf.l y_1), (List.take (Int.toNat x10_b) x7), (), ())) ∧ (((!y_5) = true → (Q .ret (⟨[(4, .ptr (.loc 4) 0), (5, .c (.bool false))], [((.loc 4), [.int .i64 0, .nils, .nils])], []⟩ : LSt U))) ∧ ((!y_5) = false → A116 N [1, 1, 1, 1, 0, 1, 0, 0, 1, 1, 1] (head116_1 e t x28 (List.drop (Int.toNat x10_b) x7) ml6_2 (.c (.bool (!y_5)))) (AExit.then N0 (AExit.inBlock 0 (S116 N [1, 1, 1, 1, 1] Q)))))) ∧ ((((OpOf.kind y_1) : Int) == 1) = false → ((0 : Int) ≤ 0 ∧ 0 < ((List.take (Int.toNat x10_b) x7).length : Int)) ∧ (pre74 (y_4, y_3, ())) ∧ (mu74 (y_4, y_3, ()) < N) ∧ ((((!((doE false y_4 y_3).isSome)) = true → (Q .ret (⟨[(4, .ptr (.loc 4) 0), (5, .c (.bool false))], [((.loc 4), [.int .i64 0, .nils, .nils])], []⟩ : LSt U))) ∧ ((!((doE false y_4 y_3).isSome)) = false → ((ml6_2.length + ([y_6]).length) * 56 ≤ 140737488355328) ∧ (A116 N [1, 1, 1, 1, 0, 1, 0, 0, 1, 1, 1] (head116_1 e t x28 (List.drop (Int.toNat x10_b) x7) (ml6_2 ++ ([y_6])) .junk) (AExit.then N0 (AExit.inBlock 0 (S116 N [1, 1, 1, 1, 1] Q)))))))))))))))) :
    A116 N [1, 1, 1, 1, 0, 1, 0, 0, 1, 1, 0, 0, 1, 1, 1] (head116_2 e t x28 x7 ml6_2 x10_b v49_b) (AExit.inBlock 1 (S116 N [1, 1, 1, 1, 0, 1, 0, 0, 1, 1, 1] (AExit.then N0 (AExit.inBlock 0 (S116 N [1, 1, 1, 1, 1] Q))))) :=
  Eq.mpr (by kernel_rfl) (h _ rfl _ rfl _ (reTree_eq _) _ (reEdit_eq _) _ rfl _ (reTree_eq _))
def Body116 (N : Nat) (e : Edit) (t : Tree)  : Prop := awp cfg (know (know116 N)) (drawOk cfg (know (know116 N))) Tryz.f116.ntmps lv116 (cd Tryz.f116 []) (entry (args116.can (e, t, ())) []) (EndsQ cfg Tryz.f116.ntmps Tryz.f116.results.toList (res116 (e, t, ())) [])
abbrev HB116 : Prop := ∀ (N : Nat) (e : Edit) (t : Tree) (_ : Unit), pre116 (e, t, ()) → mu116 (e, t, ()) < N + 1 → Body116 N e t
theorem make74_ (c114 : Contract Tryz.prog cfg 114 spec114) (c173 : Contract Tryz.prog cfg 173 spec173) (c174 : Contract Tryz.prog cfg 174 spec174) (c177 : Contract Tryz.prog cfg 177 spec177) (c175 : Contract Tryz.prog cfg 175 spec175) (c176 : Contract Tryz.prog cfg 176 spec176) (c1117 : Contract Tryz.prog cfg 117 spec1117) (b74 : HB74) (b115 : HB115) (b116 : HB116) :
    Contract Tryz.prog cfg 74 spec74 ∧ Contract Tryz.prog cfg 115 spec115 ∧ Contract Tryz.prog cfg 116 spec116 := by
  have h82 : ∃ fn, Tryz.prog.funcs[(74 : FuncId)]? = some fn ∧ fn.body.isSome = true ∧ (fn.name == "runtime.NumGoroutine") = false := ⟨Tryz.f74, Tryz.func74, rfl, rfl⟩
  have h113 : ∃ fn, Tryz.prog.funcs[(115 : FuncId)]? = some fn ∧ fn.body.isSome = true ∧ (fn.name == "runtime.NumGoroutine") = false := ⟨Tryz.f115, Tryz.func115, rfl, rfl⟩
  have h114 : ∃ fn, Tryz.prog.funcs[(116 : FuncId)]? = some fn ∧ fn.body.isSome = true ∧ (fn.name == "runtime.NumGoroutine") = false := ⟨Tryz.f116, Tryz.func116, rfl, rfl⟩
  have key : ∀ N, Contract Tryz.prog cfg 74 (fs args74 (fun a => [pre74 a, mu74 a < N]) res74) ∧ Contract Tryz.prog cfg 115 (fs args115 (fun a => [pre115 a, mu115 a < N]) res115) ∧ Contract Tryz.prog cfg 116 (fs args116 (fun a => [pre116 a, mu116 a < N]) res116) := by
    intro N
    induction N with
    | zero => exact ⟨fs_zero h82, fs_zero h113, fs_zero h114⟩
    | succ N ih =>
      have kn := know_ok (l := know74 N) ⟨ih.1, ih.2.1, ih.2.2, c114, c173, c174, c177, c175, c176, c1117, trivial⟩
      exact ⟨contract_fs (Γ := know (know74 N)) cfgOk rfl kn lv74 Tryz.func74 rfl rfl (fun a => by show 2 ≤ _; decide) (fun ⟨e, t, _⟩ h => b74 N e t () h.1 h.2.1),
        contract_fs (Γ := know (know74 N)) cfgOk rfl kn lv115 Tryz.func115 rfl rfl (fun a => by show 2 ≤ _; decide) (fun ⟨e, t, _⟩ h => b115 N e t () h.1 h.2.1),
        contract_fs (Γ := know (know74 N)) cfgOk rfl kn lv116 Tryz.func116 rfl rfl (fun a => by show 2 ≤ _; decide) (fun ⟨e, t, _⟩ h => b116 N e t () h.1 h.2.1)⟩
  exact ⟨fs_less h82 fun N => (key N).1, fs_less h113 fun N => (key N).2.1, fs_less h114 fun N => (key N).2.2⟩
end Go.AM.YtpjenobkibfpcaaGreat

namespace Go.AM.YtpjenobkibfpcaaGreat
open Go.AM Go.Proofs
def args25 : ArgL (Edit × Tree × Unit) := (.cons (aEl .edit) (.cons (aEl .tree) .nil))
def pre25 (a : Edit × Tree × Unit) : Prop := (massE a.1 ≤ 20000000000 ∧ rngE a.1 ∧ ∃ d, rightE a.1 d = true) ∧ mass a.2.1 + ctE a.1 ≤ 200000000000 ∧ rng a.2.1
noncomputable def res25 (a : Edit × Tree × Unit) : V U := .tup [(true, [.int .i64 (Tree.kind (orNil ((doE false a.1 a.2.1).map normT))), .slice (U := U) .u64 (Tree.words (orNil ((doE false a.1 a.2.1).map normT))) .unk, .slice (U := U) .tree (Tree.kids (orNil ((doE false a.1 a.2.1).map normT))) .unk]), (false, [.bool ((doE false a.1 a.2.1).isSome)])]
noncomputable def spec25 : Fs U := fs args25 (fun a => [pre25 a]) res25
noncomputable def know25 : List (FuncId × Fs U) := [(75, spec75), (74, spec74)]
def lv25 : Lives U := fun i => match i with
  | 0 => ([(2, []), (3, []), (4, [])], [((.loc 2), []), ((.loc 3), []), ((.loc 4), [])])
  | 1 => ([(4, []), (6, []), (7, [])], [((.loc 4), []), ((.loc 6), [])])
  | 2 => ([(4, []), (6, []), (15, [])], [((.loc 4), []), ((.loc 6), [])])
  | 3 => ([(4, []), (5, [])], [((.loc 4), [])])
  | 4 => ([(4, []), (5, [])], [((.loc 4), [])])
  | _ => ([], [])
noncomputable abbrev A25 (p : List Nat) := awp cfg (know know25) (drawOk cfg (know know25)) Tryz.f25.ntmps lv25 (cd Tryz.f25 p)
theorem vc25 (e : Edit) (t : Tree) (Q : AExit → LSt U → Prop) (h : ∀ y_1, y_1 = (e) → ∀ y_2, y_2 = (t) → ∀ y_3, y_3 = ((oneT y_1 y_2)) → ((pre74 (y_1, y_2, ())) ∧ ((((!((doE false y_1 y_2).isSome)) = true → (Q .ret (⟨[(4, .ptr (.loc 4) 0), (5, .c (.bool false))], [((.loc 4), [.int .i64 0, .nils, .nils])], []⟩ : LSt U))) ∧ ((!((doE false y_1 y_2).isSome)) = false → (pre75 (y_3, ())) ∧ (Q .ret (⟨[(4, .ptr (.loc 4) 0), (5, .c (.bool true))], [((.loc 4), [.int .i64 (Tree.kind (normT y_3)), .slice (U := U) .u64 (Tree.words (normT y_3)) .unk, .slice (U := U) .tree (Tree.kids (normT y_3)) .unk])], []⟩ : LSt U))))))) :
    A25 [] (⟨[(0, .agg [.int .i64 (Edit.kind e), .int .i64 (Tree.kind (Edit.old e)), .slice (U := U) .u64 (Tree.words (Edit.old e)) .unk, .slice (U := U) .tree (Tree.kids (Edit.old e)) .unk, .int .i64 (Tree.kind (Edit.new e)), .slice (U := U) .u64 (Tree.words (Edit.new e)) .unk, .slice (U := U) .tree (Tree.kids (Edit.new e)) .unk, .slice (U := U) .wedit (Edit.words e) .unk, .slice (U := U) .kid (Edit.kids e) .unk, .int .i64 (Edit.list e), .slice (U := U) .op (Edit.ops e) .unk]), (1, .agg [.int .i64 (Tree.kind t), .slice (U := U) .u64 (Tree.words t) .unk, .slice (U := U) .tree (Tree.kids t) .unk])], [], []⟩ : LSt U) Q :=
  Eq.mpr (by kernel_rfl) (h _ (reEdit_eq _) _ (reTree_eq _) _ (reTree_eq _))
def Body25 (e : Edit) (t : Tree)  : Prop := awp cfg (know (know25)) (drawOk cfg (know (know25))) Tryz.f25.ntmps lv25 (cd Tryz.f25 []) (entry (args25.can (e, t, ())) []) (EndsQ cfg Tryz.f25.ntmps Tryz.f25.results.toList (res25 (e, t, ())) [])
theorem make25 (c75 : Contract Tryz.prog cfg 75 spec75) (c74 : Contract Tryz.prog cfg 74 spec74) (hb : ∀ (e : Edit) (t : Tree) (_ : Unit), pre25 (e, t, ()) → Body25 e t) : Contract Tryz.prog cfg 25 spec25 :=
  contract_flat (l := [(75, spec75), (74, spec74)]) cfgOk rfl (⟨c75, c74, trivial⟩) lv25 Tryz.func25 rfl rfl 2 (fun _ => rfl) (by decide) (fun ⟨e, t, _⟩ => hb e t ())
end Go.AM.YtpjenobkibfpcaaGreat

namespace Go.AM.YtpjenobkibfpcaaGreat
open Go.AM Go.Proofs
theorem c1117 : Contract Tryz.prog cfg 117 spec1117 := by
  refine make1117 ?_
  intro l _ hp
  simp only [pre1117] at hp
  refine vc1117 _ _ ⟨fun h => ?_, fun _ => ⟨by simp only [List.length_nil]; omega, ?_⟩⟩
  · subst h
    simp only [resL1117]
    (repeat' (first | exact trivial | exact rfl | apply And.intro))
  · simp only [resL1117]
    (repeat' (first | exact trivial | exact rfl | apply And.intro))
theorem c175 : Contract Tryz.prog cfg 175 spec175 := by
  refine make175 ?_
  intro l _ hp
  simp only [pre175] at hp
  refine vc175 _ _ ⟨fun h => ?_, fun _ => ⟨by simp only [List.length_nil]; omega, ?_⟩⟩
  · subst h
    simp only [resL175]
    (repeat' (first | exact trivial | exact rfl | apply And.intro))
  · simp only [resL175]
    (repeat' (first | exact trivial | exact rfl | apply And.intro))
theorem setPad_in {α : Type} (z : α) {l : List α} {i : Nat} (h : i < l.length) (x : α) : setPad z l i x = l.set i x := by
  simp only [setPad]; rw [show i + 1 - l.length = 0 by omega]; simp
theorem setPad_snoc {α : Type} (z : α) {l : List α} {i : Nat} (h : l.length ≤ i) (x : α) : setPad z (l ++ [z]) i x = setPad z l i x := by
  simp only [setPad, List.length_append, List.length_singleton, List.append_assoc]
  rw [show i + 1 - l.length = (i + 1 - (l.length + 1)) + 1 by omega, List.replicate_succ]
  rfl
theorem massKT (t : Tree) : t.words.length + massK t.kids + 1 = mass t := by obtain ⟨k, w, ks⟩ := t; simp only [mass, Tree.words_mk, Tree.kids_mk]; omega
theorem rng_at {t : Tree} (h : rng t) : isI t.kind ∧ (∀ x ∈ t.words, isW x) ∧ rngK t.kids := by obtain ⟨k, w, ks⟩ := t; exact h
theorem rng_kid {ks : List Tree} (h : rngK ks) (i : Nat) : rng (ks.getD i Tree.nil) := by
  by_cases hi : i < ks.length
  · exact rngK_mem h (mem_getD hi _)
  · rw [List.getD_eq_getElem?_getD, List.getElem?_eq_none (by omega)]
    refine ⟨by decide, by simp [Tree.nil], trivial⟩
theorem mass_kid (ks : List Tree) (i : Nat) : mass (ks.getD i Tree.nil) ≤ massK ks + 1 := by
  by_cases hi : i < ks.length
  · have := massK_mem (mem_getD hi Tree.nil); omega
  · rw [List.getD_eq_getElem?_getD, List.getElem?_eq_none (by omega)]
    simp [Tree.nil, mass, massK]
theorem kidAt_pos (t : Tree) {i : Int} (h : 0 ≤ i) : kidAt t i = t.kids.getD i.toNat Tree.nil := by unfold kidAt; rw [if_neg (by omega)]
theorem wordAt_pos (t : Tree) {i : Int} (h : 0 ≤ i) : wordAt t i = t.words.getD i.toNat 0 := by unfold wordAt; rw [if_neg (by omega)]
theorem word_in {l : List Int} (h : ∀ x ∈ l, isW x) (i : Nat) : isW (l.getD i 0) := by
  by_cases hi : i < l.length
  · exact h _ (mem_getD hi _)
  · rw [List.getD_eq_getElem?_getD, List.getElem?_eq_none (by omega)]; show 0 ≤ (0 : Int) ∧ (0 : Int) < _; omega
theorem b74 : HB74 := by
  intro N e t _ hp hN
  simp only [pre74, mu74] at hp hN
  obtain ⟨⟨p1, p2, d, p3⟩, p4, p5⟩ := hp
  have h1 := len_massE e
  have h2 := rngE_at p2
  have hd := doE_at false e t
  rw [nrD_false] at hd
  refine vc74 _ _ _ _ ?_
  rintro y1 hy1 y2 hy2 y3 hy3
  subst hy1 hy2 hy3
  (simp only [vcT, vcS])
  refine ⟨fun hk => ?_, fun hk => ⟨fun hk1 => ⟨by simp only [pre114]; omega, ?_⟩, fun hk1 => ⟨fun hk2 => ⟨by simp only [pre115]; exact ⟨hk2, ⟨p1, p2, d, p3⟩, p4, p5⟩, by simp only [mu115]; omega, ?_⟩, fun hk2 => ⟨fun hk3 => ⟨by simp only [pre116]; exact ⟨hk3, ⟨p1, p2, d, p3⟩, p4, p5⟩, by simp only [mu116]; omega, ?_⟩, fun hk3 => ?_⟩⟩⟩⟩
  · rw [if_pos hk] at hd
    simp only [res74, oneT, if_pos hk, hd]
    (repeat' (first | exact trivial | exact rfl | apply And.intro))
  · rw [if_neg hk, if_pos hk1] at hd
    simp only [res74, oneT, if_neg hk, if_pos hk1, hd]
    cases sameT (normT y1.old) (normT y2) <;> (repeat' (first | exact trivial | exact rfl | apply And.intro))
  · rw [if_neg hk, if_neg hk1, if_pos hk2] at hd
    simp only [res74, oneT, if_neg hk, if_neg hk1, if_pos hk2, hd]
    (repeat' (first | exact trivial | exact rfl | apply And.intro))
  · rw [if_neg hk, if_neg hk1, if_neg hk2, if_pos hk3] at hd
    simp only [res74, oneT, if_neg hk, if_neg hk1, if_neg hk2, if_pos hk3, hd]
    have e2 : (if y2.kind = y1.list then (endD (doOs false y1.ops y2.kids [])).map fun b => Tree.mk y1.list [] b else none).isSome = (endD (lstD false y1 y2)).isSome := by
      unfold lstD
      split
      · cases endD (doOs false y1.ops y2.kids []) <;> rfl
      · rfl
    rw [e2]
    (repeat' (first | exact trivial | exact rfl | apply And.intro))
  · rw [if_neg hk, if_neg hk1, if_neg hk2, if_neg hk3] at hd
    simp only [res74, oneT, if_neg hk, if_neg hk1, if_neg hk2, if_neg hk3, hd]
    (repeat' (first | exact trivial | exact rfl | apply And.intro))
theorem b115 : HB115 := by
  intro N e t _ hp hN
  simp only [pre115, mu115] at hp hN
  obtain ⟨k2, ⟨p1, p2, d, p3⟩, p4, p5⟩ := hp
  have h1 := len_massE e
  have h2 := massKs_len e.kids
  have h3 := massKT t
  have h4 := massK_len t.kids
  have r2 := rngE_at p2
  have rt := rng_at p5
  have ri := rightE_all p3
  refine vc115 _ _ _ _ ?_
  (simp only [vcT, vcS])
  have no : strD false e t = none → EndsQ cfg Tryz.f115.ntmps Tryz.f115.results.toList (res115 (e, t, ())) [] .ret (⟨[(4, .ptr (.loc 4) 0), (5, .c (.bool false))], [((.loc 4), [.int .i64 0, .nils, .nils])], []⟩ : LSt U) := by
    intro hs
    simp only [res115, hs]
    (repeat' (first | exact trivial | exact rfl | apply And.intro))
  refine ⟨fun hk => no (by unfold strD; rw [if_neg hk]), fun hk => ?_⟩
  have hk : t.kind = 1 := by simpa using hk
  refine ⟨by simp only [pre1117]; omega, by simp only [pre175]; omega, ?_⟩
  refine loop_rule (ι := Int × List Int) (fun s => head115_0 e t s.1 s.2) (fun s => 0 ≤ s.1 ∧ s.1 ≤ e.words.length ∧ wsD t.words (e.words.drop s.1.toNat) s.2 = wsD t.words e.words t.words ∧ s.2.length ≤ t.words.length + 65536) (fun s => ((e.words.length : Int) - s.1).toNat) (0, t.words) rfl ⟨by simp, by simp, by simp, by simp⟩ ?_
  rintro ⟨i, out⟩ ⟨f1, f2, f3, f4⟩
  dsimp only at f1 f2 f3 f4
  refine vc115_l0 _ _ _ _ _ _ _ ?_
  rintro y1 hy1 y2 hy2
  subst hy1
  (simp only [vcT, vcS])
  refine ⟨fun hi => ?_, fun hi => ?_⟩
  · have hmem := mem_getD (l := e.words) (i := i.toNat) (by omega) (WEdit.mk 0 0 0 0)
    rw [dropI f1 hi (WEdit.mk 0 0 0 0), ← hy2] at f3
    rw [← hy2] at hmem
    have hw := wordsOk_all ri.words y2 hmem
    obtain ⟨g1, g2, g3, g4⟩ := r2.2.2.2.1 y2 hmem
    have hat : wordAt y1 y2.at_ = y1.words.getD y2.at_.toNat 0 := wordAt_pos y1 (by omega)
    have hwi := word_in rt.2.1 y2.at_.toNat
    rw [wsD] at f3
    rw [hat]
    unfold isW at g3 g4 hwi
    refine ⟨⟨f1, hi⟩, by simp only [pre173], by simp only [pre176]; omega, fun hne => no ?_, fun heq => ?_⟩
    · rw [if_neg hne] at f3
      unfold strD
      rw [if_pos hk, ← f3]
      rfl
    · have heq : mix 0 (y1.words.getD y2.at_.toNat 0) y2.mask = y2.old := by simpa using heq
      rw [if_pos heq] at f3
      refine loop_rule (ι := List Int) (fun s => head115_1 e y1 i s) (fun s => (∀ v, setPad 0 s y2.at_.toNat v = setPad 0 out y2.at_.toNat v) ∧ s.length ≤ y1.words.length + 65536) (fun s => (y2.at_ + 1 - s.length).toNat) out rfl ⟨fun v => rfl, f4⟩ ?_
      rintro s ⟨q1, q2⟩
      refine vc115_l1 _ _ _ _ _ _ _ _ ?_
      (simp only [Tree.eta, Edit.eta, Tree.kind_mk, Tree.words_mk, Tree.kids_mk])
      rw [← hy2, hat]
      (simp only [vcT, vcS])
      refine ⟨fun hl => ⟨by simp; omega, s ++ [0], rfl, ⟨fun v => ?_, by simp; omega⟩, by simp; omega⟩, fun hl => ?_⟩
      · rw [setPad_snoc 0 (by omega), q1]
      · have hl : y2.at_ < s.length := by omega
        refine ⟨by simp only [pre176]; omega, by omega, by omega, by unfold InR; omega, (i + 1, s.set y2.at_.toNat (mix (y1.words.getD y2.at_.toNat 0) y2.new y2.mask)), rfl, ⟨by dsimp only; omega, by dsimp only; omega, ?_, by simp only [List.length_set]; omega⟩, by dsimp only; omega⟩
        dsimp only
        rw [← f3, ← setPad_in 0 (by omega), q1]
  · rw [List.drop_of_length_le (by omega), wsD] at f3
    refine loop_rule (ι := Int × List Tree) (fun s => head115_2 e y1 out s.1 s.2) (fun s => 0 ≤ s.1 ∧ s.1 ≤ e.kids.length ∧ doKs false y1.kids (e.kids.drop s.1.toNat) s.2 = doKs false y1.kids e.kids y1.kids ∧ s.2.length ≤ y1.kids.length + 65536) (fun s => ((e.kids.length : Int) - s.1).toNat) (0, y1.kids) rfl ⟨by simp, by simp, by simp, by simp⟩ ?_
    rintro ⟨j, ks⟩ ⟨e1, e2, e3, e4⟩
    dsimp only at e1 e2 e3 e4
    refine vc115_l2 _ _ _ _ _ _ _ _ ?_
    rintro y1 hy1 y2 hy2 y3 hy3 y4 hy4
    subst hy1
    (simp only [vcT, vcS])
    refine ⟨fun hj => ?_, fun hj => ?_⟩
    · have hmem := mem_getD (l := e.kids) (i := j.toNat) (by omega) (KidOf.mk 0 Edit.nil)
      rw [dropI e1 hj (KidOf.mk 0 Edit.nil), ← hy2] at e3
      rw [← hy2] at hmem
      have hk2 := rightKs_all ri.kids y2 hmem
      have hm := massKs_mem hmem
      have hct := ctKs_mem hmem
      have hca := ctE_at e
      have hr := (rngKs_mem r2.2.2.2.2.2.1 hmem).2
      have hat : kidAt y1 y2.at_ = y1.kids.getD y2.at_.toNat Tree.nil := kidAt_pos y1 (by omega)
      rw [hat] at hy4
      have hm4 := mass_kid y1.kids y2.at_.toNat
      have hr4 := rng_kid rt.2.2 y2.at_.toNat
      rw [doKs, doKid_at, ← hy4, ← hy3] at e3
      rw [← hy4] at hm4 hr4
      rw [← hy3] at hm hr hk2 hct
      refine ⟨⟨e1, hj⟩, by simp only [pre174], by simp only [pre74]; exact ⟨⟨by omega, hr, _, hk2.2⟩, by omega, hr4⟩, by simp only [mu74]; omega, fun hne => no ?_, fun heq => ?_⟩
      · have hne : doE false y3 y4 = none := by simpa using hne
        rw [hne] at e3
        unfold strD
        rw [if_pos hk, ← f3, ← e3]
        rfl
      · obtain ⟨u, hu⟩ := Option.isSome_iff_exists.1 heq
        rw [hu, Option.bind_some] at e3
        refine loop_rule (ι := List Tree) (fun s => head115_3 e y1 out j s) (fun s => (∀ v, setPad Tree.nil s y2.at_.toNat v = setPad Tree.nil ks y2.at_.toNat v) ∧ s.length ≤ y1.kids.length + 65536) (fun s => (y2.at_ + 1 - s.length).toNat) ks rfl ⟨fun v => rfl, e4⟩ ?_
        rintro s ⟨q1, q2⟩
        refine vc115_l3 _ _ _ _ _ _ _ _ _ ?_
        rintro z1 hz1 z2 hz2 z3 hz3 z4 hz4 z5 hz5
        rw [← hy2] at hz2
        subst hz1 hz2
        rw [← hy3] at hz3
        subst hz3
        rw [hat, ← hy4] at hz4
        subst hz4
        rw [oneT_some hu] at hz5
        subst hz5
        (simp only [vcT, vcS])
        refine ⟨fun hl => ⟨by simp; omega, s ++ [Tree.nil], rfl, ⟨fun v => ?_, by simp; omega⟩, by simp; omega⟩, fun hl => ?_⟩
        · rw [setPad_snoc Tree.nil (by omega), q1]
        · have hl : z2.at_ < s.length := by omega
          refine ⟨by omega, by omega, by unfold InR; omega, (j + 1, s.set z2.at_.toNat z5), rfl, ⟨by dsimp only; omega, by dsimp only; omega, ?_, by simp only [List.length_set]; omega⟩, by dsimp only; omega⟩
          dsimp only
          rw [← e3, ← setPad_in Tree.nil (by omega), q1]
    · rw [List.drop_of_length_le (by omega), doKs] at e3
      have hs : strD false e y1 = some (.mk 1 out ks) := by
        unfold strD
        rw [if_pos hk, ← f3, ← e3]
        rfl
      simp only [res115, hs]
      (repeat' (first | exact trivial | exact rfl | apply And.intro))
theorem doOs_cons (r : Bool) (o : Op) (s : List Op) (rest out : List Tree) : doOs r (o :: s) rest out = (doOp r o rest out).bind fun x => doOs r s x.2 x.1 := by rw [doOs]
theorem rngK_drop {ks : List Tree} (h : rngK ks) (n : Nat) : rngK (ks.drop n) := by
  induction n generalizing ks with
  | zero => exact h
  | succ n ih => cases ks with
    | nil => exact h
    | cons a r => exact ih h.2
theorem b116 : HB116 := by
  intro N e t _ hp hN
  simp only [pre116, mu116] at hp hN
  obtain ⟨k3, ⟨p1, p2, d, p3⟩, p4, p5⟩ := hp
  have h1 := len_massE e
  have h2 := massOs_len e.ops
  have h3 := massKT t
  have h4 := massK_len t.kids
  have r2 := rngE_at p2
  have rt := rng_at p5
  have ri := rightE_all p3
  refine vc116 _ _ _ _ ?_
  (simp only [vcT, vcS])
  have no : lstD false e t = none → EndsQ cfg Tryz.f116.ntmps Tryz.f116.results.toList (res116 (e, t, ())) [] .ret (⟨[(4, .ptr (.loc 4) 0), (5, .c (.bool false))], [((.loc 4), [.int .i64 0, .nils, .nils])], []⟩ : LSt U) := by
    intro hs
    simp only [res116, hs]
    (repeat' (first | exact trivial | exact rfl | apply And.intro))
  refine ⟨fun hk => no (by unfold lstD; rw [if_neg hk]), fun hk => ?_⟩
  have hk : t.kind = e.list := by simpa using hk
  have hl0 : lstD false e t = doOs false e.ops t.kids [] := by unfold lstD; rw [if_pos hk]
  refine loop_rule (ι := Int × List Tree × List Tree) (fun s => head116_0 e t s.1 s.2.2 s.2.1)
    (fun s => 0 ≤ s.1 ∧ s.1 ≤ e.ops.length ∧ doOs false (e.ops.drop s.1.toNat) s.2.2 s.2.1 = lstD false e t ∧ s.2.1.length + s.2.2.length + massOs (e.ops.drop s.1.toNat) ≤ t.kids.length + massOs e.ops ∧ massK s.2.2 ≤ massK t.kids ∧ rngK s.2.2)
    (fun s => ((e.ops.length : Int) - s.1).toNat) (0, [], t.kids) rfl ⟨by simp, by simp, by simp [hl0], by simp, by simp, rt.2.2⟩ ?_
  rintro ⟨i, out, rest⟩ ⟨f1, f2, f3, f4, f5, f6⟩
  dsimp only at f1 f2 f3 f4 f5 f6
  refine vc116_l0 _ _ _ _ _ _ _ _ ?_
  rintro y1 hy1
  (simp only [vcT, vcS])
  refine ⟨fun hi => ?_, fun hi => ?_⟩
  · have hmem := mem_getD (l := e.ops) (i := i.toNat) (by omega) Op.nil
    rw [dropI f1 hi Op.nil, ← hy1] at f3 f4
    rw [← hy1] at hmem
    have hr := Go.AM.rightOs_mem ri.ops y1 hmem
    have hm := massOs_mem hmem
    have hct := ctOs_mem hmem
    have hca := ctE_at e
    have hme := massOp_e y1
    have hro := rngOp_e (rngOs_mem r2.2.2.2.2.2.2 hmem)
    have hml := massK_len y1.l
    simp only [massOs] at f4
    rw [doOs_cons, doOp_at] at f3
    have go : ∀ (x : List Tree) (m : List Tree) (v : V U) N0 Q', doOs false (e.ops.drop (i + 1).toNat) x m = lstD false e t → m.length + x.length + massOs (e.ops.drop (i + 1).toNat) ≤ t.kids.length + massOs e.ops → massK x ≤ massK t.kids → rngK x →
        (∀ s2, s2 = head116_0 e t (i + 1) x m → N0 s2) → A116 N [1, 1, 1, 1, 0, 1, 0, 0, 1, 1, 1] (head116_1 e t i x m v) (AExit.then N0 (AExit.inBlock 0 (S116 N [1, 1, 1, 1, 1] Q'))) := by
      intro x m v N0 Q' a1 a2 a3 a4 a5
      exact vc116_c1 _ _ _ _ _ _ _ _ _ ⟨by unfold InR; omega, a5 _ rfl⟩
    have fin : ∀ (x m : List Tree), doOs false (e.ops.drop (i + 1).toNat) x m = lstD false e t → m.length + x.length + massOs (e.ops.drop (i + 1).toNat) ≤ t.kids.length + massOs e.ops → massK x ≤ massK t.kids → rngK x → ∀ s2, s2 = head116_0 e t (i + 1) x m →
        ∃ j : Int × List Tree × List Tree, s2 = head116_0 e t j.1 j.2.2 j.2.1 ∧ (0 ≤ j.1 ∧ j.1 ≤ e.ops.length ∧ doOs false (e.ops.drop j.1.toNat) j.2.2 j.2.1 = lstD false e t ∧ j.2.1.length + j.2.2.length + massOs (e.ops.drop j.1.toNat) ≤ t.kids.length + massOs e.ops ∧ massK j.2.2 ≤ massK t.kids ∧ rngK j.2.2) ∧ ((e.ops.length : Int) - j.1).toNat < ((e.ops.length : Int) - i).toNat := by
      rintro x m a1 a2 a3 a4 _ rfl
      exact ⟨(i + 1, m, x), rfl, ⟨by dsimp only; omega, by dsimp only; omega, a1, a2, a3, a4⟩, by dsimp only; omega⟩
    have r1 := rightOp_all hr
    have ht : ∀ n : Nat, (rest.take n).length ≤ rest.length ∧ (rest.take n).length + (rest.drop n).length = rest.length := by
      intro n
      simp only [List.length_take, List.length_drop]; omega
    refine ⟨⟨f1, hi⟩, fun hk2 => ⟨by omega, ?_⟩, fun hk2 => ⟨fun hk1 => ?_, fun hk1 => ⟨fun hk3 => ?_, fun hk3 => ?_⟩⟩⟩
    · rw [if_neg (by omega), if_neg (by omega), if_pos hk2, Option.bind_some] at f3
      exact go _ _ _ _ _ f3 (by simp only [List.length_append]; omega) f5 f6 (fin _ _ f3 (by simp only [List.length_append]; omega) f5 f6)
    · refine vc116_c2 _ _ _ _ _ _ _ _ _ _ ?_
      rintro z1 hz1 z2 hz2 z3 hz3 z4 hz4 z5 hz5 z6 hz6
      rw [← hy1] at hz1
      subst hz1
      rw [if_neg (by omega), if_pos hk1] at f3
      (simp only [vcT, vcS])
      rw [Int.toNat_natCast] at hz5
      rw [Int.toNat_natCast]
      refine ⟨fun hs => no ?_, fun hs => ⟨by omega, by omega, fun h => by omega, fun _ => ⟨fun _ => ⟨?_, fun hq => no ?_, fun hq => ?_⟩, fun h => absurd hk1 h⟩⟩⟩
      · have : goneD z1.l rest = false := by unfold goneD; rw [decide_eq_false (by omega)]; rfl
        rw [this, if_neg (by simp)] at f3
        exact f3.symm
      · have := massK_take z1.l.length rest
        simp only [pre177]; omega
      · have : goneD z1.l rest = false := by unfold goneD; rw [← hz5, hq]; simp
        rw [this, if_neg (by simp)] at f3
        exact f3.symm
      · have : goneD z1.l rest = true := by unfold goneD; rw [← hz5, hq, decide_eq_true (by omega)]; rfl
        rw [this, if_pos rfl, Option.bind_some] at f3
        have hd := massK_drop z1.l.length rest
        have ht1 := ht z1.l.length
        exact go _ _ _ _ _ f3 (by omega) (by omega) (rngK_drop f6 _) (fin _ _ f3 (by omega) (by omega) (rngK_drop f6 _))
    · refine vc116_c2 _ _ _ _ _ _ _ _ _ _ ?_
      rintro z1 hz1 z2 hz2 z3 hz3 z4 hz4 z5 hz5 z6 hz6
      rw [← hy1] at hz1
      subst hz1
      rw [if_neg (by omega), if_neg hk1, if_neg hk2] at f3
      (simp only [vcT, vcS])
      rw [show Int.toNat 1 = 1 from rfl]
      refine ⟨fun hs => no ?_, fun hs => ⟨by omega, by omega, fun h => by omega, fun _ => ⟨fun h => absurd h hk1, fun _ => ?_⟩⟩⟩
      · rw [if_pos (by omega)] at f3
        exact f3.symm
      · have hz : z3 = rest.getD 0 Tree.nil := by
          rw [hz3, hz2]
          cases rest with
          | nil => rfl
          | cons a r => rfl
        rw [if_neg (by omega), ← hz, ← hz4] at f3
        have hm3 := mass_kid rest 0
        have hr3 := rng_kid f6 0
        rw [← hz] at hm3 hr3
        have hre := right_desc hr hk3
        rw [← hz4] at hre hme hro hct
        refine ⟨?_, by simp only [pre74]; exact ⟨⟨by omega, hro.2.2.2, _, hre⟩, by omega, hr3⟩, by simp only [mu74]; omega, fun hne => no ?_, fun heq => ?_⟩
        · simp only [List.length_take]; omega
        · have hne : doE false z4 z3 = none := by simpa using hne
          rw [hne] at f3
          exact f3.symm
        · obtain ⟨u, hu⟩ := Option.isSome_iff_exists.1 heq
          rw [oneT_some hu] at hz6
          subst hz6
          rw [hu, Option.map_some, Option.bind_some] at f3
          have hd := massK_drop 1 rest
          have ht1 := ht 1
          have ht2 : (rest.take 1).length = 1 := by simp only [List.length_take]; omega
          refine ⟨by simp only [List.length_singleton]; omega, ?_⟩
          exact go _ _ _ _ _ f3 (by simp only [List.length_append, List.length_singleton]; omega) (by omega) (rngK_drop f6 _) (fin _ _ f3 (by simp only [List.length_append, List.length_singleton]; omega) (by omega) (rngK_drop f6 _))
    · have hk0 : y1.kind = 0 := by cases r1 <;> first | rfl | (exfalso; simp at hk1 hk2 hk3)
      refine vc116_c2 _ _ _ _ _ _ _ _ _ _ ?_
      rintro z1 hz1 z2 hz2 z3 hz3 z4 hz4 z5 hz5 z6 hz6
      rw [← hy1] at hz1
      subst hz1
      rw [if_pos hk0] at f3
      have hn : 1 ≤ z1.n ∧ z1.n ≤ 1048576 := by cases r1 <;> first | (constructor <;> assumption) | (exfalso; simp at hk1 hk2 hk3 hk0)
      (simp only [vcT, vcS])
      refine ⟨fun hs => no ?_, fun hs => ⟨by omega, by omega, fun _ => ⟨?_, ?_⟩, fun h => absurd hk0 h⟩⟩
      · rw [if_neg (by omega)] at f3
        exact f3.symm
      · have := (ht z1.n.toNat).1
        omega
      · rw [if_pos (by omega), Option.bind_some] at f3
        have hd := massK_drop z1.n.toNat rest
        have ht1 := ht z1.n.toNat
        exact go _ _ _ _ _ f3 (by simp only [List.length_append]; omega) (by omega) (rngK_drop f6 _) (fin _ _ f3 (by simp only [List.length_append]; omega) (by omega) (rngK_drop f6 _))
  · rw [List.drop_of_length_le (by omega), doOs] at f3
    simp only [res116, ← f3, lstT, endD, Option.bind_some, hk]
    by_cases hr : rest.length = 0
    · rw [if_pos hr, hr]
      (repeat' (first | exact trivial | exact rfl | apply And.intro))
    · rw [if_neg hr, show ((rest.length : Int) == 0) = false by rw [beq_eq_false_iff_ne]; omega]
      (repeat' (first | exact trivial | exact rfl | apply And.intro))
theorem c74_ : Contract Tryz.prog cfg 74 spec74 ∧ Contract Tryz.prog cfg 115 spec115 ∧ Contract Tryz.prog cfg 116 spec116 := make74_ c114 c173 c174 c177 c175 c176 c1117 b74 b115 b116
theorem c74 : Contract Tryz.prog cfg 74 spec74 := c74_.1
end Go.AM.YtpjenobkibfpcaaGreat

namespace Go.AM.YtpjenobkibfpcaaGreat
open Go.AM Go.Proofs
theorem doE_mass {r : Bool} {e : Edit} {t u : Tree} (hr : ∃ d, rightE e d = true) (ht : mass t + ctE e ≤ 200000000000) (h : doE r e t = some u) : mass u ≤ 1000000000000 := by
  obtain ⟨d, hr⟩ := hr
  have := mass_do r e d t u hr h
  omega
theorem c25 : Contract Tryz.prog cfg 25 spec25 := by
  refine make25 c75 c74 ?_
  intro e t _ hp
  simp only [pre25] at hp
  refine vc25 _ _ _ ?_
  rintro y1 hy1 y2 hy2 y3 hy3
  subst hy1 hy2
  (simp only [vcT, vcS])
  refine ⟨by simp only [pre74]; exact hp, fun hn => ?_, fun hs => ?_⟩
  · have hn : doE false y1 y2 = none := by simpa using hn
    simp only [res25, hn]
    (repeat' (first | exact trivial | exact rfl | apply And.intro))
  · obtain ⟨u, hu⟩ := Option.isSome_iff_exists.1 hs
    rw [oneT_some hu] at hy3
    subst hy3
    have := doE_mass hp.1.2.2 hp.2.1 hu
    refine ⟨by simp only [pre75]; exact this, ?_⟩
    simp only [res25, hu]
    (repeat' (first | exact trivial | exact rfl | apply And.intro))
end Go.AM.YtpjenobkibfpcaaGreat

namespace Go.AM.YtpjenobkibfpcaaGreat
open Go.AM Go.Proofs
abbrev TrZKG22c (p : Prop) : Prop := p → p
def args150 : ArgM ((List Op × List Tree × List Tree × Unit) × Unit) := (.obj 0 (.cons (cWr .op 0 0) (.cons (cOwn .tree 0 1) (.cons (cOwn .tree 0 2) .nil))) .nil)
def pre150 (a : (List Op × List Tree × List Tree × Unit) × Unit) : Prop := (a.1.1).length ≤ 200000000000 ∧ (a.1.2.1).length ≤ 200000000000 ∧ (a.1.2.2.1).length ≤ 200000000000
noncomputable def res150 (a : (List Op × List Tree × List Tree × Unit) × Unit) : V U := .tup []
noncomputable def resX150 (a : (List Op × List Tree × List Tree × Unit) × Unit) : List (List (C U)) := [[.mref (.x 0 0), .slice (U := U) .tree ((flushW (Wst.mk a.1.1 a.1.2.1 a.1.2.2.1)).gone) (.own (.x 0 1)), .slice (U := U) .tree ((flushW (Wst.mk a.1.1 a.1.2.1 a.1.2.2.1)).brought) (.own (.x 0 2))]]
noncomputable def resL150 (a : (List Op × List Tree × List Tree × Unit) × Unit) : List (Tok × LC U) := [(.x 0 0, LC.mk (U := U) .op ((flushW (Wst.mk a.1.1 a.1.2.1 a.1.2.2.1)).out) 0)]
noncomputable def spec150 : Fs U := fsXL args150 (fun a => [pre150 a]) res150 resX150 resL150
def args147 : ArgM ((List Op × List Tree × List Tree × Unit) × Int × Unit) := (.obj 0 (.cons (cWr .op 0 0) (.cons (cOwn .tree 0 1) (.cons (cOwn .tree 0 2) .nil))) (.cons (aInt .i64) .nil))
def pre147 (a : (List Op × List Tree × List Tree × Unit) × Int × Unit) : Prop := (a.1.1).length ≤ 200000000000 ∧ (a.1.2.1).length ≤ 200000000000 ∧ (a.1.2.2.1).length ≤ 200000000000 ∧ (∀ o ∈ a.1.1, 0 ≤ o.n ∧ o.n ≤ 100000000000000000) ∧ 0 ≤ a.2.1 ∧ a.2.1 ≤ 1048576
noncomputable def res147 (a : (List Op × List Tree × List Tree × Unit) × Int × Unit) : V U := .tup []
noncomputable def resX147 (a : (List Op × List Tree × List Tree × Unit) × Int × Unit) : List (List (C U)) := [[.mref (.x 0 0), .slice (U := U) .tree ((keepW (Wst.mk a.1.1 a.1.2.1 a.1.2.2.1) a.2.1).gone) (.own (.x 0 1)), .slice (U := U) .tree ((keepW (Wst.mk a.1.1 a.1.2.1 a.1.2.2.1) a.2.1).brought) (.own (.x 0 2))]]
noncomputable def resL147 (a : (List Op × List Tree × List Tree × Unit) × Int × Unit) : List (Tok × LC U) := [(.x 0 0, LC.mk (U := U) .op ((keepW (Wst.mk a.1.1 a.1.2.1 a.1.2.2.1) a.2.1).out) 0)]
noncomputable def spec147 : Fs U := fsXL args147 (fun a => [pre147 a]) res147 resX147 resL147
def args148 : ArgM ((List Op × List Tree × List Tree × Unit) × List Tree × Unit) := (.objAt 0 1 (.cons (cWr .op 0 0) (.cons (cOwn .tree 0 1) (.cons (cOwn .tree 0 2) .nil))) (.cons (aSl .tree) .nil))
def pre148 (a : (List Op × List Tree × List Tree × Unit) × List Tree × Unit) : Prop := (a.1.1).length ≤ 200000000000 ∧ (a.1.2.1).length ≤ 200000000000 ∧ (a.1.2.2.1).length ≤ 200000000000 ∧ massK a.2.1 ≤ 20000000000
noncomputable def res148 (a : (List Op × List Tree × List Tree × Unit) × List Tree × Unit) : V U := .tup []
noncomputable def resX148 (a : (List Op × List Tree × List Tree × Unit) × List Tree × Unit) : List (List (C U)) := [[.mref (.x 0 0), .slice (U := U) .tree ((Wst.mk a.1.1 (a.1.2.1 ++ normsT a.2.1) a.1.2.2.1).gone) (.own (.x 0 1)), .slice (U := U) .tree ((Wst.mk a.1.1 (a.1.2.1 ++ normsT a.2.1) a.1.2.2.1).brought) (.own (.x 0 2))]]
noncomputable def resL148 (a : (List Op × List Tree × List Tree × Unit) × List Tree × Unit) : List (Tok × LC U) := [(.x 0 0, LC.mk (U := U) .op ((Wst.mk a.1.1 (a.1.2.1 ++ normsT a.2.1) a.1.2.2.1).out) 0)]
noncomputable def spec148 : Fs U := fsXL args148 (fun a => [pre148 a]) res148 resX148 resL148
def args1148 : ArgM ((List Op × List Tree × List Tree × Unit) × List Tree × Unit) := (.objAt 0 2 (.cons (cWr .op 0 0) (.cons (cOwn .tree 0 1) (.cons (cOwn .tree 0 2) .nil))) (.cons (aSl .tree) .nil))
def pre1148 (a : (List Op × List Tree × List Tree × Unit) × List Tree × Unit) : Prop := (a.1.1).length ≤ 200000000000 ∧ (a.1.2.1).length ≤ 200000000000 ∧ (a.1.2.2.1).length ≤ 200000000000 ∧ massK a.2.1 ≤ 20000000000
noncomputable def res1148 (a : (List Op × List Tree × List Tree × Unit) × List Tree × Unit) : V U := .tup []
noncomputable def resX1148 (a : (List Op × List Tree × List Tree × Unit) × List Tree × Unit) : List (List (C U)) := [[.mref (.x 0 0), .slice (U := U) .tree ((Wst.mk a.1.1 a.1.2.1 (a.1.2.2.1 ++ normsT a.2.1)).gone) (.own (.x 0 1)), .slice (U := U) .tree ((Wst.mk a.1.1 a.1.2.1 (a.1.2.2.1 ++ normsT a.2.1)).brought) (.own (.x 0 2))]]
noncomputable def resL1148 (a : (List Op × List Tree × List Tree × Unit) × List Tree × Unit) : List (Tok × LC U) := [(.x 0 0, LC.mk (U := U) .op ((Wst.mk a.1.1 a.1.2.1 (a.1.2.2.1 ++ normsT a.2.1)).out) 0)]
noncomputable def spec1148 : Fs U := fsXL args1148 (fun a => [pre1148 a]) res1148 resX1148 resL1148
def args1149 : ArgL (Int × Edit × Unit) := (.cons (aInt .i64) (.cons (aEl .edit) .nil))
def pre1149 (a : Int × Edit × Unit) : Prop := (Edit.words a.2.1).length ≤ 20000000000 ∧ (Edit.kids a.2.1).length ≤ 20000000000
noncomputable def res1149 (a : Int × Edit × Unit) : V U := .c (.bool (idleE a.1 a.2.1))
noncomputable def spec1149 : Fs U := fs args1149 (fun a => [pre1149 a]) res1149
noncomputable def know150 : List (FuncId × Fs U) := []
def lv150 : Lives U := fun i => match i with
  | 0 => ([(0, []), (7, [])], [((.x 0), [.wr .op])])
  | 1 => ([(0, [])], [((.x 0), [.wr .op])])
  | 2 => ([(0, []), (28, [])], [((.x 0), [.wr .op])])
  | 3 => ([(0, [])], [((.x 0), [.wr .op])])
  | 4 => ([], [((.x 0), [.wr .op])])
  | _ => ([], [])
abbrev W150 (wo : List Op) (wg : List Tree) (wb : List Tree) (Q : AExit → LSt U → Prop) := awp cfg (know know150) (drawOk cfg (know know150)) Tryz.f150.ntmps lv150 (cd Tryz.f150 []) (⟨[(0, .ptr (.x 0) 0)], [((.x 0), [.mref (.x 0 0), .slice (U := U) .tree wg (.own (.x 0 1)), .slice (U := U) .tree wb (.own (.x 0 2))])], [(.x 0 0, LC.mk (U := U) .op wo 0)]⟩ : LSt U) Q
theorem vc150 (wo : List Op) (wg : List Tree) (wb : List Tree) (Q : AExit → LSt U → Prop) (h : ∀ y_1, y_1 = (Edit.mk 0 (Tree.mk 0 ([]) ([])) (Tree.mk 0 ([]) ([])) ([]) ([]) 0 ([])) → ∀ y_2, y_2 = (List.set (wo ++ ([(OpOf.mk 0 0 ([]) y_1 : Op)])) (Int.toNat (wo.length : Int)) (OpOf.mk 1 0 wg y_1 : Op)) → ((decide ((0 : Int) < (wg.length : Int))) = true → ((wo.length + ([(OpOf.mk 0 0 ([]) y_1 : Op)]).length) * 240 ≤ 140737488355328) ∧ ((0 : Int) ≤ (wo.length : Int) ∧ (wo.length : Int) < ((wo ++ ([(OpOf.mk 0 0 ([]) y_1 : Op)])).length : Int)) ∧ ((0 : Nat) ≤ (Int.toNat (wo.length : Int))) ∧ (((decide ((0 : Int) < (wb.length : Int))) = true → ((y_2.length + ([(OpOf.mk 0 0 ([]) y_1 : Op)]).length) * 240 ≤ 140737488355328) ∧ ((0 : Int) ≤ (y_2.length : Int) ∧ (y_2.length : Int) < ((y_2 ++ ([(OpOf.mk 0 0 ([]) y_1 : Op)])).length : Int)) ∧ ((0 : Nat) ≤ (Int.toNat (y_2.length : Int))) ∧ (Q .normal (⟨[], [((.x 0), [.mref (.x 0 0), .nils, .nils])], [(.x 0 0, LC.mk (U := U) .op (List.set (y_2 ++ ([(OpOf.mk 0 0 ([]) y_1 : Op)])) (Int.toNat (y_2.length : Int)) (OpOf.mk 2 0 wb y_1 : Op)) 0)]⟩ : LSt U))) ∧ ((decide ((0 : Int) < (wb.length : Int))) = false → Q .normal (⟨[], [((.x 0), [.mref (.x 0 0), .nils, .nils])], [(.x 0 0, LC.mk (U := U) .op y_2 0)]⟩ : LSt U)))) ∧ ((decide ((0 : Int) < (wg.length : Int))) = false → ((decide ((0 : Int) < (wb.length : Int))) = true → ((wo.length + ([(OpOf.mk 0 0 ([]) y_1 : Op)]).length) * 240 ≤ 140737488355328) ∧ ((0 : Int) ≤ (wo.length : Int) ∧ (wo.length : Int) < ((wo ++ ([(OpOf.mk 0 0 ([]) y_1 : Op)])).length : Int)) ∧ ((0 : Nat) ≤ (Int.toNat (wo.length : Int))) ∧ (Q .normal (⟨[], [((.x 0), [.mref (.x 0 0), .nils, .nils])], [(.x 0 0, LC.mk (U := U) .op (List.set (wo ++ ([(OpOf.mk 0 0 ([]) y_1 : Op)])) (Int.toNat (wo.length : Int)) (OpOf.mk 2 0 wb y_1 : Op)) 0)]⟩ : LSt U))) ∧ ((decide ((0 : Int) < (wb.length : Int))) = false → Q .normal (⟨[], [((.x 0), [.mref (.x 0 0), .nils, .nils])], [(.x 0 0, LC.mk (U := U) .op wo 0)]⟩ : LSt U)))) :
    W150 wo wg wb Q := by
  have e_ : (W150 wo wg wb Q) = (let y_1 := (Edit.mk 0 (Tree.mk 0 ([]) ([])) (Tree.mk 0 ([]) ([])) ([]) ([]) 0 ([])); let y_2 := (List.set (wo ++ ([(OpOf.mk 0 0 ([]) y_1 : Op)])) (Int.toNat (wo.length : Int)) (OpOf.mk 1 0 wg y_1 : Op)); let zz0 := (decide ((0 : Int) < (wb.length : Int))); (((decide ((0 : Int) < (wg.length : Int))) = true → ((wo.length + ([(OpOf.mk 0 0 ([]) y_1 : Op)]).length) * 240 ≤ 140737488355328) ∧ ((0 : Int) ≤ (wo.length : Int) ∧ (wo.length : Int) < ((wo ++ ([(OpOf.mk 0 0 ([]) y_1 : Op)])).length : Int)) ∧ ((0 : Nat) ≤ (Int.toNat (wo.length : Int))) ∧ (((zz0 = true → ((y_2.length + ([(OpOf.mk 0 0 ([]) y_1 : Op)]).length) * 240 ≤ 140737488355328) ∧ ((0 : Int) ≤ (y_2.length : Int) ∧ (y_2.length : Int) < ((y_2 ++ ([(OpOf.mk 0 0 ([]) y_1 : Op)])).length : Int)) ∧ ((0 : Nat) ≤ (Int.toNat (y_2.length : Int))) ∧ ((Q .normal (⟨[], [((.x 0), [.mref (.x 0 0), .nils, .nils])], [(.x 0 0, LC.mk (U := U) .op (List.set (y_2 ++ ([(OpOf.mk 0 0 ([]) y_1 : Op)])) (Int.toNat (y_2.length : Int)) (OpOf.mk 2 0 wb y_1 : Op)) 0)]⟩ : LSt U)))) ∧ (zz0 = false → (Q .normal (⟨[], [((.x 0), [.mref (.x 0 0), .nils, .nils])], [(.x 0 0, LC.mk (U := U) .op y_2 0)]⟩ : LSt U)))))) ∧ ((decide ((0 : Int) < (wg.length : Int))) = false → ((zz0 = true → ((wo.length + ([(OpOf.mk 0 0 ([]) y_1 : Op)]).length) * 240 ≤ 140737488355328) ∧ ((0 : Int) ≤ (wo.length : Int) ∧ (wo.length : Int) < ((wo ++ ([(OpOf.mk 0 0 ([]) y_1 : Op)])).length : Int)) ∧ ((0 : Nat) ≤ (Int.toNat (wo.length : Int))) ∧ ((Q .normal (⟨[], [((.x 0), [.mref (.x 0 0), .nils, .nils])], [(.x 0 0, LC.mk (U := U) .op (List.set (wo ++ ([(OpOf.mk 0 0 ([]) y_1 : Op)])) (Int.toNat (wo.length : Int)) (OpOf.mk 2 0 wb y_1 : Op)) 0)]⟩ : LSt U)))) ∧ (zz0 = false → (Q .normal (⟨[], [((.x 0), [.mref (.x 0 0), .nils, .nils])], [(.x 0 0, LC.mk (U := U) .op wo 0)]⟩ : LSt U))))))) := by kernel_rfl
  exact e_.mpr (by intro y_1 y_2; have hh := h y_1 rfl y_2 rfl; exact ⟨fun c_1 => ⟨(hh.1 c_1).1, (hh.1 c_1).2.1, (hh.1 c_1).2.2.1, ⟨fun c_2 => ⟨((hh.1 c_1).2.2.2.1 c_2).1, ((hh.1 c_1).2.2.2.1 c_2).2.1, ((hh.1 c_1).2.2.2.1 c_2).2.2.1, ((hh.1 c_1).2.2.2.1 c_2).2.2.2⟩, fun c_2 => ((hh.1 c_1).2.2.2.2 c_2)⟩⟩, fun c_1 => ⟨fun c_3 => ⟨((hh.2 c_1).1 c_3).1, ((hh.2 c_1).1 c_3).2.1, ((hh.2 c_1).1 c_3).2.2.1, ((hh.2 c_1).1 c_3).2.2.2⟩, fun c_3 => ((hh.2 c_1).2 c_3)⟩⟩)
def Body150 (wo : List Op) (wg : List Tree) (wb : List Tree)  : Prop := awp cfg (know (know150)) (drawOk cfg (know (know150))) Tryz.f150.ntmps lv150 (cd Tryz.f150 []) (entryL (args150.can ((wo, wg, wb, ()), ())) (args150.canX ((wo, wg, wb, ()), ())) (args150.canL ((wo, wg, wb, ()), ()))) (EndsQL cfg Tryz.f150.ntmps Tryz.f150.results.toList (res150 ((wo, wg, wb, ()), ())) (resX150 ((wo, wg, wb, ()), ())) (resL150 ((wo, wg, wb, ()), ())))
theorem make150 (hb : ∀ (wo : List Op) (wg : List Tree) (wb : List Tree) (_ : Unit), pre150 ((wo, wg, wb, ()), ()) → Body150 wo wg wb) : Contract Tryz.prog cfg 150 spec150 :=
  contractXL_flat (l := []) cfgOk rfl (trivial) lv150 Tryz.func150 rfl rfl 1 (fun _ => rfl) (by decide) (fun ⟨⟨wo, wg, wb, _⟩, _⟩ => hb wo wg wb ())
noncomputable def know147 : List (FuncId × Fs U) := [(150, spec150)]
def lv147 : Lives U := fun i => match i with
  | 0 => ([(0, []), (1, [])], [((.x 0), [.wr .op])])
  | 1 => ([(0, []), (1, []), (4, [])], [((.x 0), [.wr .op])])
  | 2 => ([(0, []), (1, []), (4, []), (25, [])], [((.x 0), [.wr .op])])
  | 3 => ([], [((.x 0), [.wr .op])])
  | 4 => ([], [((.x 0), [.wr .op])])
  | _ => ([], [])
abbrev W147 (wo : List Op) (wg : List Tree) (wb : List Tree) (n : Int) (Q : AExit → LSt U → Prop) := awp cfg (know know147) (drawOk cfg (know know147)) Tryz.f147.ntmps lv147 (cd Tryz.f147 []) (⟨[(0, .ptr (.x 0) 0), (1, .c (.int .i64 n))], [((.x 0), [.mref (.x 0 0), .slice (U := U) .tree wg (.own (.x 0 1)), .slice (U := U) .tree wb (.own (.x 0 2))])], [(.x 0 0, LC.mk (U := U) .op wo 0)]⟩ : LSt U) Q
theorem vc147 (wo : List Op) (wg : List Tree) (wb : List Tree) (n : Int) (Q : AExit → LSt U → Prop) (h : ∀ y_1, y_1 = (Edit.mk 0 (Tree.mk 0 ([]) ([])) (Tree.mk 0 ([]) ([])) ([]) ([]) 0 ([])) → ∀ y_2, y_2 = (Int.toNat (((((flushW (Wst.mk wo wg wb)).out).length : Int) : Int) - 1)) → ∀ y_3, y_3 = (List.getD ((flushW (Wst.mk wo wg wb)).out) y_2 Op.nil) → ∀ y_4, y_4 = ((OpOf.e y_3)) → (pre150 ((wo, wg, wb, ()), ())) ∧ ((InR (((((flushW (Wst.mk wo wg wb)).out).length : Int) : Int) - 1)) ∧ (((decide ((0 : Int) ≤ (((((flushW (Wst.mk wo wg wb)).out).length : Int) : Int) - 1))) = true → (0 : Int) ≤ (((((flushW (Wst.mk wo wg wb)).out).length : Int) : Int) - 1) ∧ (((((flushW (Wst.mk wo wg wb)).out).length : Int) : Int) - 1) < (((flushW (Wst.mk wo wg wb)).out).length : Int)) ∧ (((bif (decide ((0 : Int) ≤ (((((flushW (Wst.mk wo wg wb)).out).length : Int) : Int) - 1))) then (((OpOf.kind y_3) : Int) == 0) else false) = true → ((0 : Int) ≤ (((((flushW (Wst.mk wo wg wb)).out).length : Int) : Int) - 1) ∧ (((((flushW (Wst.mk wo wg wb)).out).length : Int) : Int) - 1) < (((flushW (Wst.mk wo wg wb)).out).length : Int)) ∧ (InR (((OpOf.n y_3) : Int) + n)) ∧ ((0 : Int) ≤ (((((flushW (Wst.mk wo wg wb)).out).length : Int) : Int) - 1) ∧ (((((flushW (Wst.mk wo wg wb)).out).length : Int) : Int) - 1) < (((flushW (Wst.mk wo wg wb)).out).length : Int)) ∧ ((0 : Nat) ≤ y_2) ∧ (Q .ret (⟨[], [((.x 0), [.mref (.x 0 0), .slice (U := U) .tree ((flushW (Wst.mk wo wg wb)).gone) (.own (.x 0 1)), .slice (U := U) .tree ((flushW (Wst.mk wo wg wb)).brought) (.own (.x 0 2))])], [(.x 0 0, LC.mk (U := U) .op (List.set ((flushW (Wst.mk wo wg wb)).out) y_2 (OpOf.mk (OpOf.kind y_3) (((OpOf.n y_3) : Int) + n) (OpOf.l y_3) y_4 : Op)) 0)]⟩ : LSt U))) ∧ ((bif (decide ((0 : Int) ≤ (((((flushW (Wst.mk wo wg wb)).out).length : Int) : Int) - 1))) then (((OpOf.kind y_3) : Int) == 0) else false) = false → ((((flushW (Wst.mk wo wg wb)).out).length + ([(OpOf.mk 0 0 ([]) y_1 : Op)]).length) * 240 ≤ 140737488355328) ∧ ((0 : Int) ≤ (((flushW (Wst.mk wo wg wb)).out).length : Int) ∧ (((flushW (Wst.mk wo wg wb)).out).length : Int) < ((((flushW (Wst.mk wo wg wb)).out) ++ ([(OpOf.mk 0 0 ([]) y_1 : Op)])).length : Int)) ∧ ((0 : Nat) ≤ (Int.toNat (((flushW (Wst.mk wo wg wb)).out).length : Int))) ∧ (Q .normal (⟨[], [((.x 0), [.mref (.x 0 0), .slice (U := U) .tree ((flushW (Wst.mk wo wg wb)).gone) (.own (.x 0 1)), .slice (U := U) .tree ((flushW (Wst.mk wo wg wb)).brought) (.own (.x 0 2))])], [(.x 0 0, LC.mk (U := U) .op (List.set (((flushW (Wst.mk wo wg wb)).out) ++ ([(OpOf.mk 0 0 ([]) y_1 : Op)])) (Int.toNat (((flushW (Wst.mk wo wg wb)).out).length : Int)) (OpOf.mk 0 n ([]) y_1 : Op)) 0)]⟩ : LSt U))))))) :
    W147 wo wg wb n Q := by
  have e_ : (W147 wo wg wb n Q) = (let y_1 := (Edit.mk 0 (Tree.mk 0 ([]) ([])) (Tree.mk 0 ([]) ([])) ([]) ([]) 0 ([])); let y_2 := (Int.toNat (((((flushW (Wst.mk wo wg wb)).out).length : Int) : Int) - 1)); let y_3 := (List.getD ((flushW (Wst.mk wo wg wb)).out) y_2 Op.nil); let y_4 := (reEdit (OpOf.e y_3)); let zz0 := (decide ((0 : Int) ≤ (((((flushW (Wst.mk wo wg wb)).out).length : Int) : Int) - 1))); (pre150 ((wo, wg, wb, ()), ())) ∧ ((InR (((((flushW (Wst.mk wo wg wb)).out).length : Int) : Int) - 1)) ∧ ((TrZKG22c (zz0 = true)) ∧ (TrZKG22c (zz0 = true)) ∧ (TrZKG22c (zz0 = true)) ∧ (TrZKG22c (zz0 = true)) ∧ (TrZKG22c (zz0 = true)) ∧ (zz0 = true → (0 : Int) ≤ (((((flushW (Wst.mk wo wg wb)).out).length : Int) : Int) - 1) ∧ (((((flushW (Wst.mk wo wg wb)).out).length : Int) : Int) - 1) < (((flushW (Wst.mk wo wg wb)).out).length : Int)) ∧ (TrZKG22c (zz0 = true)) ∧ (TrZKG22c (zz0 = true)) ∧ (TrZKG22c (zz0 = true)) ∧ ((TrZKG22c (zz0 = true))) ∧ (((bif zz0 then ((OpOf.kind y_3) == 0) else false) = true → ((0 : Int) ≤ (((((flushW (Wst.mk wo wg wb)).out).length : Int) : Int) - 1) ∧ (((((flushW (Wst.mk wo wg wb)).out).length : Int) : Int) - 1) < (((flushW (Wst.mk wo wg wb)).out).length : Int)) ∧ (InR ((OpOf.n y_3) + n)) ∧ ((0 : Int) ≤ (((((flushW (Wst.mk wo wg wb)).out).length : Int) : Int) - 1) ∧ (((((flushW (Wst.mk wo wg wb)).out).length : Int) : Int) - 1) < (((flushW (Wst.mk wo wg wb)).out).length : Int)) ∧ ((0 : Nat) ≤ y_2) ∧ (Q .ret (⟨[], [((.x 0), [.mref (.x 0 0), .slice (U := U) .tree ((flushW (Wst.mk wo wg wb)).gone) (.own (.x 0 1)), .slice (U := U) .tree ((flushW (Wst.mk wo wg wb)).brought) (.own (.x 0 2))])], [(.x 0 0, LC.mk (U := U) .op (List.set ((flushW (Wst.mk wo wg wb)).out) y_2 (OpOf.mk (OpOf.kind y_3) ((OpOf.n y_3) + n) (OpOf.l y_3) y_4 : Op)) 0)]⟩ : LSt U))) ∧ ((bif zz0 then ((OpOf.kind y_3) == 0) else false) = false → ((((flushW (Wst.mk wo wg wb)).out).length + ([(OpOf.mk 0 0 ([]) y_1 : Op)]).length) * 240 ≤ 140737488355328) ∧ ((0 : Int) ≤ (((flushW (Wst.mk wo wg wb)).out).length : Int) ∧ (((flushW (Wst.mk wo wg wb)).out).length : Int) < ((((flushW (Wst.mk wo wg wb)).out) ++ ([(OpOf.mk 0 0 ([]) y_1 : Op)])).length : Int)) ∧ ((0 : Nat) ≤ (Int.toNat (((flushW (Wst.mk wo wg wb)).out).length : Int))) ∧ (Q .normal (⟨[], [((.x 0), [.mref (.x 0 0), .slice (U := U) .tree ((flushW (Wst.mk wo wg wb)).gone) (.own (.x 0 1)), .slice (U := U) .tree ((flushW (Wst.mk wo wg wb)).brought) (.own (.x 0 2))])], [(.x 0 0, LC.mk (U := U) .op (List.set (((flushW (Wst.mk wo wg wb)).out) ++ ([(OpOf.mk 0 0 ([]) y_1 : Op)])) (Int.toNat (((flushW (Wst.mk wo wg wb)).out).length : Int)) (OpOf.mk 0 n ([]) y_1 : Op)) 0)]⟩ : LSt U))))))) := by kernel_rfl
  exact e_.mpr (by intro y_1 y_2 y_3 y_4; have hh := h y_1 rfl y_2 rfl y_3 rfl y_4 (reEdit_eq _); exact ⟨hh.1, ⟨hh.2.1, ⟨id, id, id, id, id, hh.2.2.1, id, id, id, (by generalize (decide ((0 : Int) ≤ (((((flushW (Wst.mk wo wg wb)).out).length : Int) : Int) - 1))) = b0; revert b0; decide), ⟨fun c_4 => ⟨(hh.2.2.2.1 c_4).1, (hh.2.2.2.1 c_4).2.1, (hh.2.2.2.1 c_4).2.2.1, (hh.2.2.2.1 c_4).2.2.2.1, (hh.2.2.2.1 c_4).2.2.2.2⟩, fun c_4 => ⟨(hh.2.2.2.2 c_4).1, (hh.2.2.2.2 c_4).2.1, (hh.2.2.2.2 c_4).2.2.1, (hh.2.2.2.2 c_4).2.2.2⟩⟩⟩⟩⟩)
def Body147 (wo : List Op) (wg : List Tree) (wb : List Tree) (n : Int)  : Prop := awp cfg (know (know147)) (drawOk cfg (know (know147))) Tryz.f147.ntmps lv147 (cd Tryz.f147 []) (entryL (args147.can ((wo, wg, wb, ()), n, ())) (args147.canX ((wo, wg, wb, ()), n, ())) (args147.canL ((wo, wg, wb, ()), n, ()))) (EndsQL cfg Tryz.f147.ntmps Tryz.f147.results.toList (res147 ((wo, wg, wb, ()), n, ())) (resX147 ((wo, wg, wb, ()), n, ())) (resL147 ((wo, wg, wb, ()), n, ())))
theorem make147 (c150 : Contract Tryz.prog cfg 150 spec150) (hb : ∀ (wo : List Op) (wg : List Tree) (wb : List Tree) (n : Int) (_ : Unit), pre147 ((wo, wg, wb, ()), n, ()) → Body147 wo wg wb n) : Contract Tryz.prog cfg 147 spec147 :=
  contractXL_flat (l := [(150, spec150)]) cfgOk rfl (⟨c150, trivial⟩) lv147 Tryz.func147 rfl rfl 2 (fun _ => rfl) (by decide) (fun ⟨⟨wo, wg, wb, _⟩, n, _⟩ => hb wo wg wb n ())
noncomputable def know148 : List (FuncId × Fs U) := [(75, spec75)]
def lv148 : Lives U := fun i => match i with
  | 0 => ([(0, []), (6, []), (7, []), (8, [])], [((.x 0), [.wr .op])])
  | 1 => ([(0, []), (6, []), (7, []), (8, []), (9, [])], [((.x 0), [.wr .op])])
  | 2 => ([(0, []), (5, []), (6, []), (7, []), (8, [])], [((.loc 5), []), ((.x 0), [.wr .op])])
  | 3 => ([(0, []), (6, []), (7, []), (8, [])], [((.x 0), [.wr .op])])
  | 4 => ([(0, []), (6, []), (7, []), (8, [])], [((.x 0), [.wr .op])])
  | _ => ([], [])
def head148_0 (wo : List Op) (wg : List Tree) (wb : List Tree) (l : List Tree) (x8 : Int) (mx0_1 : List Tree) : LSt U := (⟨[(0, .ptr (.x 0) 1), (6, .c (.slice (U := U) .tree l .unk)), (7, .c (.int .i64 (l.length : Int))), (8, .c (.int .i64 x8))], [((.x 0), [.mref (.x 0 0), .slice (U := U) .tree mx0_1 (.own (.x 0 1)), .slice (U := U) .tree wb (.own (.x 0 2))])], [(.x 0 0, LC.mk (U := U) .op wo 0)]⟩ : LSt U)
abbrev W148 (wo : List Op) (wg : List Tree) (wb : List Tree) (l : List Tree) (Q : AExit → LSt U → Prop) := awp cfg (know know148) (drawOk cfg (know know148)) Tryz.f148.ntmps lv148 (cd Tryz.f148 []) (⟨[(0, .ptr (.x 0) 1), (1, .c (.slice (U := U) .tree l .unk))], [((.x 0), [.mref (.x 0 0), .slice (U := U) .tree wg (.own (.x 0 1)), .slice (U := U) .tree wb (.own (.x 0 2))])], [(.x 0 0, LC.mk (U := U) .op wo 0)]⟩ : LSt U) Q
theorem vc148 (wo : List Op) (wg : List Tree) (wb : List Tree) (l : List Tree) (Q : AExit → LSt U → Prop) (h : LoopWp (awp cfg (know know148) (drawOk cfg (know know148)) Tryz.f148.ntmps lv148 (cd Tryz.f148 [1, 0, 0])) (head148_0 wo wg wb l 0 wg) (AExit.inBlock 0 Q)) :
    W148 wo wg wb l Q := by
  have e_ : (W148 wo wg wb l Q) = (type_of% h) := by kernel_rfl
  exact e_.mpr h
abbrev W148_l0 (wo : List Op) (wg : List Tree) (wb : List Tree) (l : List Tree) (x8 : Int) (mx0_1 : List Tree) (N0 : LSt U → Prop) (Q : AExit → LSt U → Prop) := awp cfg (know know148) (drawOk cfg (know know148)) Tryz.f148.ntmps lv148 (cd Tryz.f148 [1, 0, 0]) (head148_0 wo wg wb l x8 mx0_1) (AExit.then N0 (AExit.inBlock 0 Q))
theorem vc148_l0 (wo : List Op) (wg : List Tree) (wb : List Tree) (l : List Tree) (x8 : Int) (mx0_1 : List Tree) (N0 : LSt U → Prop) (Q : AExit → LSt U → Prop) (h : ((decide ((x8 : Int) < (l.length : Int))) = true → ((0 : Int) ≤ x8 ∧ x8 < (l.length : Int)) ∧ ((pre75 ((Tree.mk (Tree.kind (List.getD l (Int.toNat x8) Tree.nil)) (Tree.words (List.getD l (Int.toNat x8) Tree.nil)) (Tree.kids (List.getD l (Int.toNat x8) Tree.nil))), ())) ∧ ((mx0_1.length + ([(Tree.mk 0 ([]) ([]))]).length) * 56 ≤ 140737488355328) ∧ ((0 : Int) ≤ (mx0_1.length : Int) ∧ (mx0_1.length : Int) < ((mx0_1 ++ ([(Tree.mk 0 ([]) ([]))])).length : Int)) ∧ (mx0_1.length ≤ (Int.toNat (mx0_1.length : Int))) ∧ ((InR ((x8 : Int) + 1)) ∧ (N0 (head148_0 wo wg wb l ((x8 : Int) + 1) (List.set (mx0_1 ++ ([(Tree.mk 0 ([]) ([]))])) (Int.toNat (mx0_1.length : Int)) (Tree.mk (Tree.kind (normT (Tree.mk (Tree.kind (List.getD l (Int.toNat x8) Tree.nil)) (Tree.words (List.getD l (Int.toNat x8) Tree.nil)) (Tree.kids (List.getD l (Int.toNat x8) Tree.nil))))) (Tree.words (normT (Tree.mk (Tree.kind (List.getD l (Int.toNat x8) Tree.nil)) (Tree.words (List.getD l (Int.toNat x8) Tree.nil)) (Tree.kids (List.getD l (Int.toNat x8) Tree.nil))))) (Tree.kids (normT (Tree.mk (Tree.kind (List.getD l (Int.toNat x8) Tree.nil)) (Tree.words (List.getD l (Int.toNat x8) Tree.nil)) (Tree.kids (List.getD l (Int.toNat x8) Tree.nil)))))))))))) ∧ ((decide ((x8 : Int) < (l.length : Int))) = false → Q .normal (⟨[(0, .ptr (.x 0) 1), (6, .c (.slice (U := U) .tree l .unk)), (7, .c (.int .i64 (l.length : Int))), (8, .c (.int .i64 x8)), (9, .c (.bool (decide ((x8 : Int) < (l.length : Int)))))], [((.x 0), [.mref (.x 0 0), .slice (U := U) .tree mx0_1 (.own (.x 0 1)), .slice (U := U) .tree wb (.own (.x 0 2))])], [(.x 0 0, LC.mk (U := U) .op wo 0)]⟩ : LSt U))) :
    W148_l0 wo wg wb l x8 mx0_1 N0 Q := by
  have e_ : (W148_l0 wo wg wb l x8 mx0_1 N0 Q) = (type_of% h) := by kernel_rfl
  exact e_.mpr ⟨fun c_5 => ⟨(h.1 c_5).1, ⟨(h.1 c_5).2.1, (h.1 c_5).2.2.1, (h.1 c_5).2.2.2.1, (h.1 c_5).2.2.2.2.1, ⟨(h.1 c_5).2.2.2.2.2.1, (h.1 c_5).2.2.2.2.2.2⟩⟩⟩, fun c_5 => (h.2 c_5)⟩
def Body148 (wo : List Op) (wg : List Tree) (wb : List Tree) (l : List Tree)  : Prop := awp cfg (know (know148)) (drawOk cfg (know (know148))) Tryz.f148.ntmps lv148 (cd Tryz.f148 []) (entryL (args148.can ((wo, wg, wb, ()), l, ())) (args148.canX ((wo, wg, wb, ()), l, ())) (args148.canL ((wo, wg, wb, ()), l, ()))) (EndsQL cfg Tryz.f148.ntmps Tryz.f148.results.toList (res148 ((wo, wg, wb, ()), l, ())) (resX148 ((wo, wg, wb, ()), l, ())) (resL148 ((wo, wg, wb, ()), l, ())))
theorem make148 (c75 : Contract Tryz.prog cfg 75 spec75) (hb : ∀ (wo : List Op) (wg : List Tree) (wb : List Tree) (l : List Tree) (_ : Unit), pre148 ((wo, wg, wb, ()), l, ()) → Body148 wo wg wb l) : Contract Tryz.prog cfg 148 spec148 :=
  contractXL_flat (l := [(75, spec75)]) cfgOk rfl (⟨c75, trivial⟩) lv148 Tryz.func148 rfl rfl 2 (fun _ => rfl) (by decide) (fun ⟨⟨wo, wg, wb, _⟩, l, _⟩ => hb wo wg wb l ())
noncomputable def know1148 : List (FuncId × Fs U) := [(75, spec75)]
def lv1148 : Lives U := fun i => match i with
  | 0 => ([(0, []), (6, []), (7, []), (8, [])], [((.x 0), [.wr .op])])
  | 1 => ([(0, []), (6, []), (7, []), (8, []), (9, [])], [((.x 0), [.wr .op])])
  | 2 => ([(0, []), (5, []), (6, []), (7, []), (8, [])], [((.loc 5), []), ((.x 0), [.wr .op])])
  | 3 => ([(0, []), (6, []), (7, []), (8, [])], [((.x 0), [.wr .op])])
  | 4 => ([(0, []), (6, []), (7, []), (8, [])], [((.x 0), [.wr .op])])
  | _ => ([], [])
def head1148_0 (wo : List Op) (wg : List Tree) (wb : List Tree) (l : List Tree) (x8 : Int) (mx0_2 : List Tree) : LSt U := (⟨[(0, .ptr (.x 0) 2), (6, .c (.slice (U := U) .tree l .unk)), (7, .c (.int .i64 (l.length : Int))), (8, .c (.int .i64 x8))], [((.x 0), [.mref (.x 0 0), .slice (U := U) .tree wg (.own (.x 0 1)), .slice (U := U) .tree mx0_2 (.own (.x 0 2))])], [(.x 0 0, LC.mk (U := U) .op wo 0)]⟩ : LSt U)
abbrev W1148 (wo : List Op) (wg : List Tree) (wb : List Tree) (l : List Tree) (Q : AExit → LSt U → Prop) := awp cfg (know know1148) (drawOk cfg (know know1148)) Tryz.f148.ntmps lv1148 (cd Tryz.f148 []) (⟨[(0, .ptr (.x 0) 2), (1, .c (.slice (U := U) .tree l .unk))], [((.x 0), [.mref (.x 0 0), .slice (U := U) .tree wg (.own (.x 0 1)), .slice (U := U) .tree wb (.own (.x 0 2))])], [(.x 0 0, LC.mk (U := U) .op wo 0)]⟩ : LSt U) Q
theorem vc1148 (wo : List Op) (wg : List Tree) (wb : List Tree) (l : List Tree) (Q : AExit → LSt U → Prop) (h : LoopWp (awp cfg (know know1148) (drawOk cfg (know know1148)) Tryz.f148.ntmps lv1148 (cd Tryz.f148 [1, 0, 0])) (head1148_0 wo wg wb l 0 wb) (AExit.inBlock 0 Q)) :
    W1148 wo wg wb l Q := by
  have e_ : (W1148 wo wg wb l Q) = (type_of% h) := by kernel_rfl
  exact e_.mpr h
abbrev W1148_l0 (wo : List Op) (wg : List Tree) (wb : List Tree) (l : List Tree) (x8 : Int) (mx0_2 : List Tree) (N0 : LSt U → Prop) (Q : AExit → LSt U → Prop) := awp cfg (know know1148) (drawOk cfg (know know1148)) Tryz.f148.ntmps lv1148 (cd Tryz.f148 [1, 0, 0]) (head1148_0 wo wg wb l x8 mx0_2) (AExit.then N0 (AExit.inBlock 0 Q))
theorem vc1148_l0 (wo : List Op) (wg : List Tree) (wb : List Tree) (l : List Tree) (x8 : Int) (mx0_2 : List Tree) (N0 : LSt U → Prop) (Q : AExit → LSt U → Prop) (h : ((decide ((x8 : Int) < (l.length : Int))) = true → ((0 : Int) ≤ x8 ∧ x8 < (l.length : Int)) ∧ ((pre75 ((Tree.mk (Tree.kind (List.getD l (Int.toNat x8) Tree.nil)) (Tree.words (List.getD l (Int.toNat x8) Tree.nil)) (Tree.kids (List.getD l (Int.toNat x8) Tree.nil))), ())) ∧ ((mx0_2.length + ([(Tree.mk 0 ([]) ([]))]).length) * 56 ≤ 140737488355328) ∧ ((0 : Int) ≤ (mx0_2.length : Int) ∧ (mx0_2.length : Int) < ((mx0_2 ++ ([(Tree.mk 0 ([]) ([]))])).length : Int)) ∧ (mx0_2.length ≤ (Int.toNat (mx0_2.length : Int))) ∧ ((InR ((x8 : Int) + 1)) ∧ (N0 (head1148_0 wo wg wb l ((x8 : Int) + 1) (List.set (mx0_2 ++ ([(Tree.mk 0 ([]) ([]))])) (Int.toNat (mx0_2.length : Int)) (Tree.mk (Tree.kind (normT (Tree.mk (Tree.kind (List.getD l (Int.toNat x8) Tree.nil)) (Tree.words (List.getD l (Int.toNat x8) Tree.nil)) (Tree.kids (List.getD l (Int.toNat x8) Tree.nil))))) (Tree.words (normT (Tree.mk (Tree.kind (List.getD l (Int.toNat x8) Tree.nil)) (Tree.words (List.getD l (Int.toNat x8) Tree.nil)) (Tree.kids (List.getD l (Int.toNat x8) Tree.nil))))) (Tree.kids (normT (Tree.mk (Tree.kind (List.getD l (Int.toNat x8) Tree.nil)) (Tree.words (List.getD l (Int.toNat x8) Tree.nil)) (Tree.kids (List.getD l (Int.toNat x8) Tree.nil)))))))))))) ∧ ((decide ((x8 : Int) < (l.length : Int))) = false → Q .normal (⟨[(0, .ptr (.x 0) 2), (6, .c (.slice (U := U) .tree l .unk)), (7, .c (.int .i64 (l.length : Int))), (8, .c (.int .i64 x8)), (9, .c (.bool (decide ((x8 : Int) < (l.length : Int)))))], [((.x 0), [.mref (.x 0 0), .slice (U := U) .tree wg (.own (.x 0 1)), .slice (U := U) .tree mx0_2 (.own (.x 0 2))])], [(.x 0 0, LC.mk (U := U) .op wo 0)]⟩ : LSt U))) :
    W1148_l0 wo wg wb l x8 mx0_2 N0 Q := by
  have e_ : (W1148_l0 wo wg wb l x8 mx0_2 N0 Q) = (type_of% h) := by kernel_rfl
  exact e_.mpr ⟨fun c_6 => ⟨(h.1 c_6).1, ⟨(h.1 c_6).2.1, (h.1 c_6).2.2.1, (h.1 c_6).2.2.2.1, (h.1 c_6).2.2.2.2.1, ⟨(h.1 c_6).2.2.2.2.2.1, (h.1 c_6).2.2.2.2.2.2⟩⟩⟩, fun c_6 => (h.2 c_6)⟩
def Body1148 (wo : List Op) (wg : List Tree) (wb : List Tree) (l : List Tree)  : Prop := awp cfg (know (know1148)) (drawOk cfg (know (know1148))) Tryz.f148.ntmps lv1148 (cd Tryz.f148 []) (entryL (args1148.can ((wo, wg, wb, ()), l, ())) (args1148.canX ((wo, wg, wb, ()), l, ())) (args1148.canL ((wo, wg, wb, ()), l, ()))) (EndsQL cfg Tryz.f148.ntmps Tryz.f148.results.toList (res1148 ((wo, wg, wb, ()), l, ())) (resX1148 ((wo, wg, wb, ()), l, ())) (resL1148 ((wo, wg, wb, ()), l, ())))
theorem make1148 (c75 : Contract Tryz.prog cfg 75 spec75) (hb : ∀ (wo : List Op) (wg : List Tree) (wb : List Tree) (l : List Tree) (_ : Unit), pre1148 ((wo, wg, wb, ()), l, ()) → Body1148 wo wg wb l) : Contract Tryz.prog cfg 148 spec1148 :=
  contractXL_flat (l := [(75, spec75)]) cfgOk rfl (⟨c75, trivial⟩) lv1148 Tryz.func148 rfl rfl 2 (fun _ => rfl) (by decide) (fun ⟨⟨wo, wg, wb, _⟩, l, _⟩ => hb wo wg wb l ())
noncomputable def know1149 : List (FuncId × Fs U) := []
def lv1149 : Lives U := fun i => match i with
  | 0 => ([(0, []), (3, [])], [((.loc 3), [])])
  | 1 => ([(4, [])], [])
  | _ => ([], [])
abbrev W1149 (list : Int) (e : Edit) (Q : AExit → LSt U → Prop) := awp cfg (know know1149) (drawOk cfg (know know1149)) Tryz.f149.ntmps lv1149 (cd Tryz.f149 []) (⟨[(0, .c (.int .i64 list)), (1, .agg [.int .i64 (Edit.kind e), .int .i64 (Tree.kind (Edit.old e)), .slice (U := U) .u64 (Tree.words (Edit.old e)) .unk, .slice (U := U) .tree (Tree.kids (Edit.old e)) .unk, .int .i64 (Tree.kind (Edit.new e)), .slice (U := U) .u64 (Tree.words (Edit.new e)) .unk, .slice (U := U) .tree (Tree.kids (Edit.new e)) .unk, .slice (U := U) .wedit (Edit.words e) .unk, .slice (U := U) .kid (Edit.kids e) .unk, .int .i64 (Edit.list e), .slice (U := U) .op (Edit.ops e) .unk])], [], []⟩ : LSt U) Q
theorem vc1149 (list : Int) (e : Edit) (Q : AExit → LSt U → Prop) (h : (((!(((Edit.kind e) : Int) == 0)) && (bif ((list : Int) == 9) then (((Edit.kind e) : Int) == 2) else false)) = true → InR ((((Edit.words e).length : Int) : Int) + ((Edit.kids e).length : Int))) ∧ (Q .ret (⟨[(4, .c (.bool (bif (((Edit.kind e) : Int) == 0) then true else (bif (bif ((list : Int) == 9) then (((Edit.kind e) : Int) == 2) else false) then ((((((Edit.words e).length : Int) : Int) + ((Edit.kids e).length : Int)) : Int) == 0) else false))))], [], []⟩ : LSt U))) :
    W1149 list e Q := by
  have e_ : (W1149 list e Q) = (let zz1 := (!((Edit.kind e) == 0)); let zz0 := (bif ((list : Int) == 9) then ((Edit.kind e) == 2) else false); ((TrZKG22c (zz1 = true)) ∧ (TrZKG22c (zz1 = true)) ∧ (TrZKG22c ((zz1 && ((list : Int) == 9)) = true)) ∧ (TrZKG22c ((zz1 && ((list : Int) == 9)) = true)) ∧ (zz1 = true → (True → zz1 = true)) ∧ (zz1 = true → (((list : Int) == 9) = true → (zz1 && ((list : Int) == 9)) = true)) ∧ (TrZKG22c (zz1 = true)) ∧ (TrZKG22c ((zz1 && zz0) = true)) ∧ (TrZKG22c ((zz1 && zz0) = true)) ∧ (TrZKG22c ((zz1 && zz0) = true)) ∧ (TrZKG22c ((zz1 && zz0) = true)) ∧ (TrZKG22c ((zz1 && zz0) = true)) ∧ (TrZKG22c ((zz1 && zz0) = true)) ∧ ((zz1 && zz0) = true → InR (((Edit.words e).length : Int) + ((Edit.kids e).length : Int))) ∧ (TrZKG22c ((zz1 && zz0) = true)) ∧ (zz1 = true → (True → zz1 = true)) ∧ (zz1 = true → (zz0 = true → (zz1 && zz0) = true)) ∧ ((((Edit.kind e) == 0) = false → zz1 = true)) ∧ (Q .ret (⟨[(4, .c (.bool (bif ((Edit.kind e) == 0) then true else (bif zz0 then (((((Edit.words e).length : Int) + ((Edit.kids e).length : Int)) : Int) == 0) else false))))], [], []⟩ : LSt U)))) := by kernel_rfl
  exact e_.mpr ⟨id, id, id, id, (by generalize (((Edit.kind e) : Int) == 0) = b0; revert b0; decide), (by generalize (((Edit.kind e) : Int) == 0) = b0; generalize ((list : Int) == 9) = b1; revert b0 b1; decide), id, id, id, id, id, id, id, h.1, id, (by generalize (((Edit.kind e) : Int) == 0) = b0; revert b0; decide), (by generalize (((Edit.kind e) : Int) == 2) = b0; generalize (((Edit.kind e) : Int) == 0) = b1; generalize ((list : Int) == 9) = b2; revert b0 b1 b2; decide), (by generalize (((Edit.kind e) : Int) == 0) = b0; revert b0; decide), h.2⟩
def Body1149 (list : Int) (e : Edit)  : Prop := awp cfg (know (know1149)) (drawOk cfg (know (know1149))) Tryz.f149.ntmps lv1149 (cd Tryz.f149 []) (entry (args1149.can (list, e, ())) []) (EndsQ cfg Tryz.f149.ntmps Tryz.f149.results.toList (res1149 (list, e, ())) [])
theorem make1149 (hb : ∀ (list : Int) (e : Edit) (_ : Unit), pre1149 (list, e, ()) → Body1149 list e) : Contract Tryz.prog cfg 149 spec1149 :=
  contract_flat (l := []) cfgOk rfl (trivial) lv1149 Tryz.func149 rfl rfl 2 (fun _ => rfl) (by decide) (fun ⟨list, e, _⟩ => hb list e ())
end Go.AM.YtpjenobkibfpcaaGreat
