import Derived.Test.YthokdjgpdonhgaaQD9
import Derived.Test.YthokdjgpdonhgaaQD8
import Derived.Test.YthokdjgpdonhgaaVRB07
import Derived.Test.YthokdjgpdonhgaaQBb
import Derived.Test.YthokdjgpdonhgaaQD4
set_option linter.unusedSimpArgs false
set_option linter.unusedVariables false
namespace Go.AM.Ythokdjgpdonhgaa
open Go.AM Go.Proofs
def args74 : ArgM ((List Int × Unit) × Int × Tree × Unit) := (.obj 0 (.cons (cWr .u64 0 0) .nil) (.cons (aInt .i64) (.cons (aEl .tree) .nil)))
def pre74 (a : (List Int × Unit) × Int × Tree × Unit) : Prop := (0 ≤ a.2.1 ∧ a.2.1 < a.1.1.length ∧ a.1.1.length + sizeN a.2.2.1 ≤ 1000000) ∧ (mass a.2.2.1 ≤ 1000000 ∧ rng a.2.2.1) ∧ Tree.kind a.2.2.1 ≠ 10 ∧ ∃ d, rightT a.2.2.1 d = true
def mu74 (a : (List Int × Unit) × Int × Tree × Unit) : Nat := 4 * mass a.2.2.1 + 3
noncomputable def res74 (a : (List Int × Unit) × Int × Tree × Unit) : V U := .c (.bool true)
noncomputable def resX74 (a : (List Int × Unit) × Int × Tree × Unit) : List (List (C U)) := [[.mref (.x 0 0)]]
noncomputable def resL74 (a : (List Int × Unit) × Int × Tree × Unit) : List (Tok × LC U) := [(.x 0 0, LC.mk (U := U) .u64 (layP a.1.1 a.2.1 a.2.2.1) 0)]
noncomputable def spec74 : Fs U := fsXL args74 (fun a => [pre74 a]) res74 resX74 resL74
def args99 : ArgM ((List Int × Unit) × Int × Tree × Unit) := (.obj 0 (.cons (cWr .u64 0 0) .nil) (.cons (aInt .i64) (.cons (aEl .tree) .nil)))
def pre99 (a : (List Int × Unit) × Int × Tree × Unit) : Prop := (0 ≤ a.2.1 ∧ a.1.1.length + sizeK (Tree.kids a.2.2.1) ≤ 1000000 ∧ zsAt a.1.1 (Int.toNat a.2.1) (Tree.kids a.2.2.1).length) ∧ (mass a.2.2.1 ≤ 1000000 ∧ rng a.2.2.1) ∧ ∀ k ∈ Tree.kids a.2.2.1, Tree.kind k ≠ 10 ∧ ∃ d, rightT k d = true
def mu99 (a : (List Int × Unit) × Int × Tree × Unit) : Nat := 4 * mass a.2.2.1 + 1
noncomputable def res99 (a : (List Int × Unit) × Int × Tree × Unit) : V U := .c (.bool true)
noncomputable def resX99 (a : (List Int × Unit) × Int × Tree × Unit) : List (List (C U)) := [[.mref (.x 0 0)]]
noncomputable def resL99 (a : (List Int × Unit) × Int × Tree × Unit) : List (Tok × LC U) := [(.x 0 0, LC.mk (U := U) .u64 (kidzR a.1.1 a.2.1 a.2.2.1) 0)]
noncomputable def spec99 : Fs U := fsXL args99 (fun a => [pre99 a]) res99 resX99 resL99
def args97 : ArgM ((List Int × Unit) × Int × Int × Tree × Unit) := (.obj 0 (.cons (cWr .u64 0 0) .nil) (.cons (aInt .i64) (.cons (aInt .i64) (.cons (aEl .tree) .nil))))
def pre97 (a : (List Int × Unit) × Int × Int × Tree × Unit) : Prop := ((0 ≤ a.2.1 ∧ (Tree.words a.2.2.2.1).length ≤ a.2.2.1) ∧ a.1.1.length + sizeK (Tree.kids a.2.2.2.1) ≤ 1000000 ∧ zsAt a.1.1 (Int.toNat a.2.1) (Int.toNat a.2.2.1 + (Tree.kids a.2.2.2.1).length)) ∧ (mass a.2.2.2.1 ≤ 1000000 ∧ rng a.2.2.2.1) ∧ ∀ k ∈ Tree.kids a.2.2.2.1, Tree.kind k ≠ 10 ∧ ∃ d, rightT k d = true
def mu97 (a : (List Int × Unit) × Int × Int × Tree × Unit) : Nat := 4 * mass a.2.2.2.1 + 2
noncomputable def res97 (a : (List Int × Unit) × Int × Int × Tree × Unit) : V U := .c (.bool true)
noncomputable def resX97 (a : (List Int × Unit) × Int × Int × Tree × Unit) : List (List (C U)) := [[.mref (.x 0 0)]]
noncomputable def resL97 (a : (List Int × Unit) × Int × Int × Tree × Unit) : List (Tok × LC U) := [(.x 0 0, LC.mk (U := U) .u64 (strR a.1.1 a.2.1 a.2.2.1 a.2.2.2.1) 0)]
noncomputable def spec97 : Fs U := fsXL args97 (fun a => [pre97 a]) res97 resX97 resL97
def args98 : ArgM ((List Int × Unit) × Int × Tree × Unit) := (.obj 0 (.cons (cWr .u64 0 0) .nil) (.cons (aInt .i64) (.cons (aEl .tree) .nil)))
def pre98 (a : (List Int × Unit) × Int × Tree × Unit) : Prop := (0 ≤ a.2.1 ∧ a.2.1 < a.1.1.length ∧ a.1.1.length + sizeN a.2.2.1 ≤ 1000000) ∧ (mass a.2.2.1 ≤ 1000000 ∧ rng a.2.2.1) ∧ Tree.kind a.2.2.1 ≠ 10 ∧ ∃ d, rightT a.2.2.1 d = true ∧ Tree.kind a.2.2.1 = 9
def mu98 (a : (List Int × Unit) × Int × Tree × Unit) : Nat := 4 * mass a.2.2.1 + 2
noncomputable def res98 (a : (List Int × Unit) × Int × Tree × Unit) : V U := .c (.bool true)
noncomputable def resX98 (a : (List Int × Unit) × Int × Tree × Unit) : List (List (C U)) := [[.mref (.x 0 0)]]
noncomputable def resL98 (a : (List Int × Unit) × Int × Tree × Unit) : List (Tok × LC U) := [(.x 0 0, LC.mk (U := U) .u64 (layP a.1.1 a.2.1 a.2.2.1) 0)]
noncomputable def spec98 : Fs U := fsXL args98 (fun a => [pre98 a]) res98 resX98 resL98
noncomputable def know74 (N : Nat) : List (FuncId × Fs U) := (74, fsXL args74 (fun a => [pre74 a, mu74 a < N]) res74 resX74 resL74) :: (99, fsXL args99 (fun a => [pre99 a, mu99 a < N]) res99 resX99 resL99) :: (97, fsXL args97 (fun a => [pre97 a, mu97 a < N]) res97 resX97 resL97) :: (98, fsXL args98 (fun a => [pre98 a, mu98 a < N]) res98 resX98 resL98) :: [(75, spec75), (96, spec96), (100, spec100), (101, spec1101), (119, spec119), (120, spec120)]
def lv74 : Lives U := fun i => match i with
  | 0 => ([(0, []), (1, []), (5, [])], [((.loc 5), []), ((.x 0), [.wr .u64])])
  | 1 => ([(0, []), (1, []), (5, []), (16, [])], [((.loc 5), []), ((.x 0), [.wr .u64])])
  | 2 => ([(6, [])], [((.x 0), [.wr .u64])])
  | 3 => ([(0, []), (1, []), (5, []), (20, [])], [((.loc 5), []), ((.x 0), [.wr .u64])])
  | 4 => ([(0, []), (1, []), (5, []), (7, [])], [((.loc 5), []), ((.x 0), [.wr .u64])])
  | 5 => ([(6, [])], [((.x 0), [.wr .u64])])
  | 6 => ([(0, []), (1, []), (5, []), (53, [])], [((.loc 5), []), ((.x 0), [.wr .u64])])
  | 7 => ([(6, [])], [((.x 0), [.wr .u64])])
  | 8 => ([(0, []), (1, []), (5, []), (61, [])], [((.loc 5), []), ((.x 0), [.wr .u64])])
  | 9 => ([(0, []), (1, []), (5, []), (8, [])], [((.loc 5), []), ((.x 0), [.wr .u64])])
  | 10 => ([(6, [])], [((.x 0), [.wr .u64])])
  | 11 => ([(0, []), (1, []), (5, []), (9, [])], [((.loc 5), []), ((.x 0), [.wr .u64])])
  | 12 => ([(0, []), (1, []), (5, []), (9, []), (10, [])], [((.loc 5), []), ((.x 0), [.wr .u64])])
  | 13 => ([(0, []), (1, []), (5, []), (9, []), (10, [.own .u64]), (88, []), (89, []), (90, [])], [((.loc 5), []), ((.x 0), [.wr .u64])])
  | 14 => ([(0, []), (1, []), (5, []), (9, []), (10, []), (88, []), (89, []), (90, []), (91, [])], [((.loc 5), []), ((.x 0), [.wr .u64])])
  | 15 => ([(0, []), (1, []), (5, []), (9, []), (10, []), (12, []), (88, []), (89, []), (90, [])], [((.loc 5), []), ((.loc 12), []), ((.x 0), [.wr .u64])])
  | 16 => ([(0, []), (1, []), (5, []), (9, []), (10, []), (88, []), (89, []), (90, [])], [((.loc 5), []), ((.x 0), [.wr .u64])])
  | 17 => ([(0, []), (1, []), (5, []), (9, []), (10, [.own .u64]), (88, []), (89, []), (90, [])], [((.loc 5), []), ((.x 0), [.wr .u64])])
  | 18 => ([(0, []), (1, []), (5, []), (9, []), (13, []), (14, [])], [((.loc 5), []), ((.x 0), [.wr .u64])])
  | 19 => ([(0, []), (1, []), (5, []), (9, []), (13, []), (14, []), (15, [])], [((.loc 5), []), ((.x 0), [.wr .u64])])
  | 20 => ([(0, []), (1, []), (5, []), (9, []), (14, []), (15, [])], [((.loc 5), []), ((.x 0), [.wr .u64])])
  | 21 => ([(6, [])], [((.x 0), [.wr .u64])])
  | _ => ([], [])
noncomputable def head74_0 (l : List Int) (at_ : Int) (t : Tree) (x90 : Int) (x10 : List Int) : LSt U := (⟨[(0, .ptr (.x 0) 0), (1, .c (.int .i64 at_)), (5, .ptr (.loc 5) 0), (9, .c (.int .i64 (((Tree.kind t) : Int) - 2))), (10, .c (.slice (U := U) .u64 x10 (.own (.e 10 0)))), (88, .c (.slice (U := U) .tree (Tree.kids t) .unk)), (89, .c (.int .i64 ((Tree.kids t).length : Int))), (90, .c (.int .i64 x90))], [((.loc 5), [.int .i64 (Tree.kind t), .slice (U := U) .u64 (Tree.words t) .unk, .slice (U := U) .tree (Tree.kids t) .unk]), ((.x 0), [.mref (.x 0 0)])], [(.x 0 0, LC.mk (U := U) .u64 l 0)]⟩ : LSt U)
noncomputable abbrev A74 (N : Nat) (p : List Nat) := awp cfg (know (know74 N)) (drawOk cfg (know (know74 N))) Try.f74.ntmps lv74 (cd Try.f74 p)
noncomputable abbrev S74 (N : Nat) (p : List Nat) := seqK cfg (know (know74 N)) (drawOk cfg (know (know74 N))) Try.f74.ntmps lv74 (cd Try.f74 p)
theorem vc74 (N : Nat) (l : List Int) (at_ : Int) (t : Tree) (Q : AExit → LSt U → Prop) (h : ∀ y_1, y_1 = (t) → ∀ y_2, y_2 = (Int.toNat ((((Tree.words t).length : Int) : Int) + ((Tree.kids t).length : Int))) → ∀ y_3, y_3 = (Ptr.mk 1 0 ((Tree.words t).length : Int) ((Tree.kids t).length : Int) 0 0 0 false) → ∀ y_4, y_4 = (pntW at_ (l.length : Int) (Ptr.mk 2 0 0 0 6 ((Tree.kids t).length : Int) 0 false)) → ((((((Tree.kind t) : Int) == 0) = true → (Q .ret (⟨[(6, .c (.bool true))], [((.x 0), [.mref (.x 0 0)])], [(.x 0 0, LC.mk (U := U) .u64 l 0)]⟩ : LSt U))) ∧ ((((Tree.kind t) : Int) == 0) = false → (((((Tree.kind t) : Int) == 1) = true → (InR ((((Tree.words t).length : Int) : Int) + ((Tree.kids t).length : Int))) ∧ (pre75 ((l, ()), ((((Tree.words t).length : Int) : Int) + ((Tree.kids t).length : Int)), ())) ∧ ((pre96 (((l ++ zs y_2), ()), at_, (l.length : Int), y_3, ())) ∧ (Tr ((true) = true)) ∧ (Tr ((true) = true)) ∧ (Tr ((true) = true)) ∧ (Tr ((true) = true)) ∧ (Tr ((true) = true)) ∧ (Tr ((true) = true)) ∧ (pre97 ((((l ++ zs y_2).set (Int.toNat at_) (pntW at_ (l.length : Int) y_3)), ()), (l.length : Int), ((Tree.words t).length : Int), y_1, ())) ∧ (mu97 ((((l ++ zs y_2).set (Int.toNat at_) (pntW at_ (l.length : Int) y_3)), ()), (l.length : Int), ((Tree.words t).length : Int), y_1, ()) < N) ∧ (Q .ret (⟨[(6, .c (.bool (bif true then true else false)))], [((.x 0), [.mref (.x 0 0)])], [(.x 0 0, LC.mk (U := U) .u64 (strR ((l ++ zs y_2).set (Int.toNat at_) (pntW at_ (l.length : Int) y_3)) (l.length : Int) ((Tree.words t).length : Int) y_1) 0)]⟩ : LSt U)))) ∧ ((((Tree.kind t) : Int) == 1) = false → (((((Tree.kind t) : Int) == 9) = true → (pre98 ((l, ()), at_, y_1, ())) ∧ (mu98 ((l, ()), at_, y_1, ()) < N) ∧ (Q .ret (⟨[(6, .c (.bool true))], [((.x 0), [.mref (.x 0 0)])], [(.x 0 0, LC.mk (U := U) .u64 (layP l at_ y_1) 0)]⟩ : LSt U))) ∧ ((((Tree.kind t) : Int) == 9) = false → (((((Tree.kind t) : Int) == 8) = true → (pre75 ((l, ()), ((Tree.kids t).length : Int), ())) ∧ ((pre96 (((l ++ zs (Int.toNat ((Tree.kids t).length : Int))), ()), at_, (l.length : Int), (Ptr.mk 2 0 0 0 6 ((Tree.kids t).length : Int) 0 false), ())) ∧ (Tr ((true) = true)) ∧ (Tr ((true) = true)) ∧ (Tr ((true) = true)) ∧ (pre99 ((((l ++ zs (Int.toNat ((Tree.kids t).length : Int))).set (Int.toNat at_) y_4), ()), (l.length : Int), y_1, ())) ∧ (mu99 ((((l ++ zs (Int.toNat ((Tree.kids t).length : Int))).set (Int.toNat at_) y_4), ()), (l.length : Int), y_1, ()) < N) ∧ (Q .ret (⟨[(6, .c (.bool (bif true then true else false)))], [((.x 0), [.mref (.x 0 0)])], [(.x 0 0, LC.mk (U := U) .u64 (kidzR ((l ++ zs (Int.toNat ((Tree.kids t).length : Int))).set (Int.toNat at_) y_4) (l.length : Int) y_1) 0)]⟩ : LSt U)))) ∧ ((((Tree.kind t) : Int) == 8) = false → (InR (((Tree.kind t) : Int) - 2)) ∧ (((LoopWp (A74 N [1, 1, 1, 1, 0, 1, 0, 0]) (head74_0 l at_ t 0 ([])) (AExit.inBlock 1 (S74 N [1, 1, 1, 1, 1] Q))))))))))))))) :
    A74 N [] (⟨[(0, .ptr (.x 0) 0), (1, .c (.int .i64 at_)), (2, .agg [.int .i64 (Tree.kind t), .slice (U := U) .u64 (Tree.words t) .unk, .slice (U := U) .tree (Tree.kids t) .unk])], [((.x 0), [.mref (.x 0 0)])], [(.x 0 0, LC.mk (U := U) .u64 l 0)]⟩ : LSt U) Q :=
  (Eq.mpr (by kernel_rfl) (h _ (reTree_eq _) _ rfl _ rfl _ rfl) :)
theorem vc74_l0 (N : Nat) (l : List Int) (at_ : Int) (t : Tree) (x90 : Int) (x10 : List Int) (N0 : LSt U → Prop) (Q : AExit → LSt U → Prop) (h : ∀ y_1, y_1 = (List.getD (Tree.kids t) (Int.toNat x90) Tree.nil) → ∀ y_2, y_2 = (Int.toNat ((putW (((Tree.kind t) : Int) - 2) x10).length : Int)) → ∀ y_3, y_3 = (y_1) → (((decide ((x90 : Int) < ((Tree.kids t).length : Int))) = true → ((0 : Int) ≤ x90 ∧ x90 < ((Tree.kids t).length : Int)) ∧ ((pre100 (y_3, 0, ())) ∧ ((x10.length + ([wordAt y_3 0]).length) * 8 ≤ 140737488355328) ∧ ((InR ((x90 : Int) + 1)) ∧ (N0 (head74_0 l at_ t ((x90 : Int) + 1) (x10 ++ ([wordAt y_3 0]))))))) ∧ ((decide ((x90 : Int) < ((Tree.kids t).length : Int))) = false → (pre1101 ((((Tree.kind t) : Int) - 2), x10, ())) ∧ ((pre75 ((l, ()), ((putW (((Tree.kind t) : Int) - 2) x10).length : Int), ())) ∧ (((0 : Int) ≤ (l.length : Int) ∧ (l.length : Int) ≤ ((l ++ zs y_2).length : Int)) ∧ ((0 : Nat) ≤ (Int.toNat (l.length : Int))) ∧ ((Tr ((true) = true)) ∧ (Tr ((true) = true)) ∧ (Tr ((true) = true)) ∧ (Tr ((true) = true)) ∧ (Tr ((true) = true)) ∧ (Tr ((true) = true)) ∧ (Tr ((true) = true)) ∧ (Tr ((true) = true)) ∧ (pre96 (((cpL (l ++ zs y_2) (Int.toNat (l.length : Int)) (putW (((Tree.kind t) : Int) - 2) x10)), ()), at_, (l.length : Int), (Ptr.mk 2 0 0 0 (((Tree.kind t) : Int) - 2) ((Tree.kids t).length : Int) 0 false), ())) ∧ (Q .ret (⟨[(6, .c (.bool (bif true then true else false)))], [((.x 0), [.mref (.x 0 0)])], [(.x 0 0, LC.mk (U := U) .u64 ((cpL (l ++ zs y_2) (Int.toNat (l.length : Int)) (putW (((Tree.kind t) : Int) - 2) x10)).set (Int.toNat at_) (pntW at_ (l.length : Int) (Ptr.mk 2 0 0 0 (((Tree.kind t) : Int) - 2) ((Tree.kids t).length : Int) 0 false))) 0)]⟩ : LSt U)))))))) :
    A74 N [1, 1, 1, 1, 0, 1, 0, 0] (head74_0 l at_ t x90 x10) (AExit.then N0 (AExit.inBlock 1 (S74 N [1, 1, 1, 1, 1] Q))) :=
  (Eq.mpr (by kernel_rfl) (h _ rfl _ rfl _ (reTree_eq _)) :)
abbrev Body74 (N : Nat) (l : List Int) (at_ : Int) (t : Tree)  : Prop := awp cfg (know (know74 N)) (drawOk cfg (know (know74 N))) Try.f74.ntmps lv74 (cd Try.f74 []) (entryL (args74.can ((l, ()), at_, t, ())) (args74.canX ((l, ()), at_, t, ())) (args74.canL ((l, ()), at_, t, ()))) (EndsQL cfg Try.f74.ntmps Try.f74.results.toList (res74 ((l, ()), at_, t, ())) (resX74 ((l, ()), at_, t, ())) (resL74 ((l, ()), at_, t, ())))
abbrev HB74 : Prop := ∀ (N : Nat) (l : List Int) (at_ : Int) (t : Tree) (_ : Unit), pre74 ((l, ()), at_, t, ()) → mu74 ((l, ()), at_, t, ()) < N + 1 → Body74 N l at_ t
noncomputable def know99 (N : Nat) : List (FuncId × Fs U) := know74 N
def lv99 : Lives U := fun i => match i with
  | 0 => ([(0, []), (1, []), (5, [])], [((.loc 5), []), ((.x 0), [.wr .u64])])
  | 1 => ([(0, []), (1, []), (10, []), (11, []), (12, [])], [((.x 0), [.wr .u64])])
  | 2 => ([(0, []), (1, []), (10, []), (11, []), (12, []), (13, [])], [((.x 0), [.wr .u64])])
  | 3 => ([(0, []), (1, []), (7, []), (8, []), (10, []), (11, []), (12, [])], [((.loc 8), []), ((.x 0), [.wr .u64])])
  | 4 => ([(0, []), (1, []), (10, []), (11, []), (12, []), (23, [])], [((.x 0), [.wr .u64])])
  | 5 => ([(6, [])], [((.x 0), [.wr .u64])])
  | 6 => ([(0, []), (1, []), (10, []), (11, []), (12, [])], [((.x 0), [.wr .u64])])
  | 7 => ([(6, [])], [((.x 0), [.wr .u64])])
  | _ => ([], [])
noncomputable def head99_0 (l : List Int) (at_ : Int) (t : Tree) (x12 : Int) (rx_0_0 : List Int) : LSt U := (⟨[(0, .ptr (.x 0) 0), (1, .c (.int .i64 at_)), (10, .c (.slice (U := U) .tree (Tree.kids t) .unk)), (11, .c (.int .i64 ((Tree.kids t).length : Int))), (12, .c (.int .i64 x12))], [((.x 0), [.mref (.x 0 0)])], [(.x 0 0, LC.mk (U := U) .u64 rx_0_0 0)]⟩ : LSt U)
noncomputable abbrev A99 (N : Nat) (p : List Nat) := awp cfg (know (know99 N)) (drawOk cfg (know (know99 N))) Try.f99.ntmps lv99 (cd Try.f99 p)
noncomputable abbrev S99 (N : Nat) (p : List Nat) := seqK cfg (know (know99 N)) (drawOk cfg (know (know99 N))) Try.f99.ntmps lv99 (cd Try.f99 p)
theorem vc99 (N : Nat) (l : List Int) (at_ : Int) (t : Tree) (Q : AExit → LSt U → Prop) (h : ((LoopWp (A99 N [1, 0, 1, 0, 0]) (head99_0 l at_ t 0 l) (AExit.inBlock 0 (S99 N [1, 1] Q))))) :
    A99 N [] (⟨[(0, .ptr (.x 0) 0), (1, .c (.int .i64 at_)), (2, .agg [.int .i64 (Tree.kind t), .slice (U := U) .u64 (Tree.words t) .unk, .slice (U := U) .tree (Tree.kids t) .unk])], [((.x 0), [.mref (.x 0 0)])], [(.x 0 0, LC.mk (U := U) .u64 l 0)]⟩ : LSt U) Q :=
  (Eq.mpr (by kernel_rfl) h :)
theorem vc99_l0 (N : Nat) (l : List Int) (at_ : Int) (t : Tree) (x12 : Int) (rx_0_0 : List Int) (N0 : LSt U → Prop) (Q : AExit → LSt U → Prop) (h : (((decide ((x12 : Int) < ((Tree.kids t).length : Int))) = true → ((0 : Int) ≤ x12 ∧ x12 < ((Tree.kids t).length : Int)) ∧ ((InR ((at_ : Int) + x12)) ∧ (pre74 ((rx_0_0, ()), ((at_ : Int) + x12), (Tree.mk (Tree.kind (List.getD (Tree.kids t) (Int.toNat x12) Tree.nil)) (Tree.words (List.getD (Tree.kids t) (Int.toNat x12) Tree.nil)) (Tree.kids (List.getD (Tree.kids t) (Int.toNat x12) Tree.nil))), ())) ∧ (mu74 ((rx_0_0, ()), ((at_ : Int) + x12), (Tree.mk (Tree.kind (List.getD (Tree.kids t) (Int.toNat x12) Tree.nil)) (Tree.words (List.getD (Tree.kids t) (Int.toNat x12) Tree.nil)) (Tree.kids (List.getD (Tree.kids t) (Int.toNat x12) Tree.nil))), ()) < N) ∧ (((!true) = true → (Q .ret (⟨[(6, .c (.bool false))], [((.x 0), [.mref (.x 0 0)])], [(.x 0 0, LC.mk (U := U) .u64 (layP rx_0_0 ((at_ : Int) + x12) (Tree.mk (Tree.kind (List.getD (Tree.kids t) (Int.toNat x12) Tree.nil)) (Tree.words (List.getD (Tree.kids t) (Int.toNat x12) Tree.nil)) (Tree.kids (List.getD (Tree.kids t) (Int.toNat x12) Tree.nil)))) 0)]⟩ : LSt U))) ∧ ((!true) = false → (InR ((x12 : Int) + 1)) ∧ (N0 (head99_0 l at_ t ((x12 : Int) + 1) (layP rx_0_0 ((at_ : Int) + x12) (Tree.mk (Tree.kind (List.getD (Tree.kids t) (Int.toNat x12) Tree.nil)) (Tree.words (List.getD (Tree.kids t) (Int.toNat x12) Tree.nil)) (Tree.kids (List.getD (Tree.kids t) (Int.toNat x12) Tree.nil)))))))))) ∧ ((decide ((x12 : Int) < ((Tree.kids t).length : Int))) = false → (Q .ret (⟨[(6, .c (.bool true))], [((.x 0), [.mref (.x 0 0)])], [(.x 0 0, LC.mk (U := U) .u64 rx_0_0 0)]⟩ : LSt U))))) :
    A99 N [1, 0, 1, 0, 0] (head99_0 l at_ t x12 rx_0_0) (AExit.then N0 (AExit.inBlock 0 (S99 N [1, 1] Q))) :=
  (Eq.mpr (by kernel_rfl) h :)
abbrev Body99 (N : Nat) (l : List Int) (at_ : Int) (t : Tree)  : Prop := awp cfg (know (know99 N)) (drawOk cfg (know (know99 N))) Try.f99.ntmps lv99 (cd Try.f99 []) (entryL (args99.can ((l, ()), at_, t, ())) (args99.canX ((l, ()), at_, t, ())) (args99.canL ((l, ()), at_, t, ()))) (EndsQL cfg Try.f99.ntmps Try.f99.results.toList (res99 ((l, ()), at_, t, ())) (resX99 ((l, ()), at_, t, ())) (resL99 ((l, ()), at_, t, ())))
abbrev HB99 : Prop := ∀ (N : Nat) (l : List Int) (at_ : Int) (t : Tree) (_ : Unit), pre99 ((l, ()), at_, t, ()) → mu99 ((l, ()), at_, t, ()) < N + 1 → Body99 N l at_ t
noncomputable def know97 (N : Nat) : List (FuncId × Fs U) := know74 N
def lv97 : Lives U := fun i => match i with
  | 0 => ([(0, []), (1, []), (2, []), (7, [])], [((.loc 7), []), ((.x 0), [.wr .u64])])
  | 1 => ([(0, []), (1, []), (2, []), (7, [])], [((.loc 7), []), ((.x 0), [.wr .u64])])
  | 2 => ([(8, [])], [((.x 0), [.wr .u64])])
  | _ => ([], [])
noncomputable abbrev A97 (N : Nat) (p : List Nat) := awp cfg (know (know97 N)) (drawOk cfg (know (know97 N))) Try.f97.ntmps lv97 (cd Try.f97 p)
theorem vc97 (N : Nat) (l : List Int) (at_ : Int) (n : Int) (t : Tree) (Q : AExit → LSt U → Prop) (h : (((0 : Int) ≤ at_ ∧ at_ ≤ (l.length : Int)) ∧ ((0 : Nat) ≤ (Int.toNat at_)) ∧ ((InR ((at_ : Int) + n)) ∧ (pre99 (((cpL l (Int.toNat at_) (Tree.words t)), ()), ((at_ : Int) + n), (Tree.mk (Tree.kind t) (Tree.words t) (Tree.kids t)), ())) ∧ (mu99 (((cpL l (Int.toNat at_) (Tree.words t)), ()), ((at_ : Int) + n), (Tree.mk (Tree.kind t) (Tree.words t) (Tree.kids t)), ()) < N) ∧ (Q .ret (⟨[(8, .c (.bool true))], [((.x 0), [.mref (.x 0 0)])], [(.x 0 0, LC.mk (U := U) .u64 (kidzR (cpL l (Int.toNat at_) (Tree.words t)) ((at_ : Int) + n) (Tree.mk (Tree.kind t) (Tree.words t) (Tree.kids t))) 0)]⟩ : LSt U))))) :
    A97 N [] (⟨[(0, .ptr (.x 0) 0), (1, .c (.int .i64 at_)), (2, .c (.int .i64 n)), (3, .agg [.int .i64 (Tree.kind t), .slice (U := U) .u64 (Tree.words t) .unk, .slice (U := U) .tree (Tree.kids t) .unk])], [((.x 0), [.mref (.x 0 0)])], [(.x 0 0, LC.mk (U := U) .u64 l 0)]⟩ : LSt U) Q :=
  (Eq.mpr (by kernel_rfl) h :)
abbrev Body97 (N : Nat) (l : List Int) (at_ : Int) (n : Int) (t : Tree)  : Prop := awp cfg (know (know97 N)) (drawOk cfg (know (know97 N))) Try.f97.ntmps lv97 (cd Try.f97 []) (entryL (args97.can ((l, ()), at_, n, t, ())) (args97.canX ((l, ()), at_, n, t, ())) (args97.canL ((l, ()), at_, n, t, ()))) (EndsQL cfg Try.f97.ntmps Try.f97.results.toList (res97 ((l, ()), at_, n, t, ())) (resX97 ((l, ()), at_, n, t, ())) (resL97 ((l, ()), at_, n, t, ())))
abbrev HB97 : Prop := ∀ (N : Nat) (l : List Int) (at_ : Int) (n : Int) (t : Tree) (_ : Unit), pre97 ((l, ()), at_, n, t, ()) → mu97 ((l, ()), at_, n, t, ()) < N + 1 → Body97 N l at_ n t
noncomputable def know98 (N : Nat) : List (FuncId × Fs U) := know74 N
def lv98 : Lives U := fun i => match i with
  | 0 => ([(0, []), (1, []), (5, [])], [((.loc 5), []), ((.x 0), [.wr .u64])])
  | 1 => ([(0, []), (1, []), (5, []), (7, []), (8, [])], [((.loc 5), []), ((.x 0), [.wr .u64])])
  | 2 => ([(0, []), (1, []), (5, []), (7, []), (8, []), (9, [])], [((.loc 5), []), ((.x 0), [.wr .u64])])
  | 3 => ([(0, []), (1, []), (5, []), (7, []), (9, []), (10, []), (11, [])], [((.loc 5), []), ((.x 0), [.wr .u64])])
  | 4 => ([(0, []), (1, []), (5, []), (7, []), (9, []), (10, []), (11, []), (34, [])], [((.loc 5), []), ((.x 0), [.wr .u64])])
  | 5 => ([(0, []), (1, []), (5, []), (7, []), (9, []), (10, []), (11, [])], [((.loc 5), []), ((.x 0), [.wr .u64])])
  | 6 => ([(0, []), (1, []), (5, []), (7, []), (9, []), (10, []), (11, []), (12, [])], [((.loc 5), []), ((.x 0), [.wr .u64])])
  | 7 => ([(0, []), (1, []), (5, []), (7, []), (9, []), (11, []), (12, [])], [((.loc 5), []), ((.x 0), [.wr .u64])])
  | 8 => ([(0, []), (5, []), (7, []), (9, []), (11, []), (12, []), (60, [])], [((.loc 5), []), ((.x 0), [.wr .u64])])
  | 9 => ([(6, [])], [((.x 0), [.wr .u64])])
  | 10 => ([(0, []), (5, []), (7, []), (9, []), (11, []), (12, []), (62, []), (63, []), (64, [])], [((.loc 5), []), ((.x 0), [.wr .u64])])
  | 11 => ([(0, []), (5, []), (7, []), (9, []), (11, []), (12, []), (62, []), (63, []), (64, []), (65, [])], [((.loc 5), []), ((.x 0), [.wr .u64])])
  | 12 => ([(0, []), (5, []), (7, []), (9, []), (11, []), (12, []), (13, []), (14, []), (62, []), (63, []), (64, [])], [((.loc 5), []), ((.loc 14), []), ((.x 0), [.wr .u64])])
  | 13 => ([(0, []), (5, []), (7, []), (9, []), (11, []), (12, []), (62, []), (63, []), (64, []), (79, [])], [((.loc 5), []), ((.x 0), [.wr .u64])])
  | 14 => ([(6, [])], [((.x 0), [.wr .u64])])
  | 15 => ([(0, []), (5, []), (7, []), (9, []), (11, []), (12, []), (62, []), (63, []), (64, [])], [((.loc 5), []), ((.x 0), [.wr .u64])])
  | 16 => ([(6, [])], [((.x 0), [.wr .u64])])
  | _ => ([], [])
noncomputable def head98_0 (l : List Int) (at_ : Int) (t : Tree) (rx_0_0 : List Int) (x64 : Int) : LSt U := (⟨[(0, .ptr (.x 0) 0), (5, .ptr (.loc 5) 0), (7, .c (.int .i64 (frW (Tree.kids (Tree.mk (Tree.kind t) (Tree.words t) (Tree.kids t))) : Int))), (9, .c (.int .i64 (((frW (Tree.kids (Tree.mk (Tree.kind t) (Tree.words t) (Tree.kids t))) : Int) : Int) + (frK (Tree.kids (Tree.mk (Tree.kind t) (Tree.words t) (Tree.kids t))) : Int)))), (11, .c (.bool (eqP (decP (encW (Ptr.mk 1 ((Tree.kids t).length : Int) (frW (Tree.kids (Tree.mk (Tree.kind t) (Tree.words t) (Tree.kids t))) : Int) (frK (Tree.kids (Tree.mk (Tree.kind t) (Tree.words t) (Tree.kids t))) : Int) 0 0 0 false))) (Ptr.mk 1 ((Tree.kids t).length : Int) (frW (Tree.kids (Tree.mk (Tree.kind t) (Tree.words t) (Tree.kids t))) : Int) (frK (Tree.kids (Tree.mk (Tree.kind t) (Tree.words t) (Tree.kids t))) : Int) 0 0 0 false) && !decide (Ptr.kind (Ptr.mk 1 ((Tree.kids t).length : Int) (frW (Tree.kids (Tree.mk (Tree.kind t) (Tree.words t) (Tree.kids t))) : Int) (frK (Tree.kids (Tree.mk (Tree.kind t) (Tree.words t) (Tree.kids t))) : Int) 0 0 0 false) = 4)))), (12, .c (.int .i64 (l.length : Int))), (62, .c (.slice (U := U) .tree (Tree.kids t) .unk)), (63, .c (.int .i64 ((Tree.kids t).length : Int))), (64, .c (.int .i64 x64))], [((.loc 5), [.int .i64 (Tree.kind t), .slice (U := U) .u64 (Tree.words t) .unk, .slice (U := U) .tree (Tree.kids t) .unk]), ((.x 0), [.mref (.x 0 0)])], [(.x 0 0, LC.mk (U := U) .u64 rx_0_0 0)]⟩ : LSt U)
noncomputable abbrev A98 (N : Nat) (p : List Nat) := awp cfg (know (know98 N)) (drawOk cfg (know (know98 N))) Try.f98.ntmps lv98 (cd Try.f98 p)
noncomputable abbrev S98 (N : Nat) (p : List Nat) := seqK cfg (know (know98 N)) (drawOk cfg (know (know98 N))) Try.f98.ntmps lv98 (cd Try.f98 p)
theorem vc98 (N : Nat) (l : List Int) (at_ : Int) (t : Tree) (Q : AExit → LSt U → Prop) (h : ∀ y_1, y_1 = (t) → ∀ y_2, y_2 = (Ptr.mk 1 ((Tree.kids t).length : Int) (frW (Tree.kids y_1) : Int) (frK (Tree.kids y_1) : Int) 0 0 0 false) → ∀ y_3, y_3 = (InR ((((Tree.kids t).length : Int) : Int) * (((frW (Tree.kids y_1) : Int) : Int) + (frK (Tree.kids y_1) : Int)))) → ∀ y_4, y_4 = (Int.toNat ((1 : Int) + ((((Tree.kids t).length : Int) : Int) * (((frW (Tree.kids y_1) : Int) : Int) + (frK (Tree.kids y_1) : Int))))) → ∀ y_5, y_5 = (Ptr.mk 2 0 0 0 7 ((((Tree.kids t).length : Int) : Int) * (((frW (Tree.kids y_1) : Int) : Int) + (frK (Tree.kids y_1) : Int))) 0 false) → ∀ y_6, y_6 = (List.set (l ++ zs y_4) (Int.toNat (l.length : Int)) (encW y_2)) → ((pre119 (y_1, ())) ∧ ((InR (((frW (Tree.kids y_1) : Int) : Int) + (frK (Tree.kids y_1) : Int))) ∧ ((pre120 (y_2, ())) ∧ ((((!(eqP (decP (encW y_2)) y_2 && !decide (Ptr.kind y_2 = 4))) = true → (y_3 ∧ (InR ((1 : Int) + ((((Tree.kids t).length : Int) : Int) * (((frW (Tree.kids y_1) : Int) : Int) + (frK (Tree.kids y_1) : Int))))) ∧ (pre75 ((l, ()), ((1 : Int) + ((((Tree.kids t).length : Int) : Int) * (((frW (Tree.kids y_1) : Int) : Int) + (frK (Tree.kids y_1) : Int)))), ())) ∧ (((0 : Int) ≤ (l.length : Int) ∧ (l.length : Int) < ((l ++ zs y_4).length : Int)) ∧ ((0 : Nat) ≤ (Int.toNat (l.length : Int))) ∧ (y_3 ∧ (pre96 (((List.set (l ++ zs y_4) (Int.toNat (l.length : Int)) 0), ()), at_, (l.length : Int), y_5, ())) ∧ (((!true) = true → (Q .ret (⟨[(6, .c (.bool false))], [((.x 0), [.mref (.x 0 0)])], [(.x 0 0, LC.mk (U := U) .u64 ((List.set (l ++ zs y_4) (Int.toNat (l.length : Int)) 0).set (Int.toNat at_) (pntW at_ (l.length : Int) y_5)) 0)]⟩ : LSt U))) ∧ ((!true) = false → (LoopWp (A98 N [1, 1, 1, 1, 1, 1, 1, 1, 0, 1, 0, 0]) (head98_0 l at_ t ((List.set (l ++ zs y_4) (Int.toNat (l.length : Int)) 0).set (Int.toNat at_) (pntW at_ (l.length : Int) y_5)) 0) (AExit.inBlock 0 (S98 N [1, 1, 1, 1, 1, 1, 1, 1, 1] Q))))))))) ∧ ((!(eqP (decP (encW y_2)) y_2 && !decide (Ptr.kind y_2 = 4))) = false → y_3 ∧ (InR ((1 : Int) + ((((Tree.kids t).length : Int) : Int) * (((frW (Tree.kids y_1) : Int) : Int) + (frK (Tree.kids y_1) : Int))))) ∧ (pre75 ((l, ()), ((1 : Int) + ((((Tree.kids t).length : Int) : Int) * (((frW (Tree.kids y_1) : Int) : Int) + (frK (Tree.kids y_1) : Int)))), ())) ∧ (((0 : Int) ≤ (l.length : Int) ∧ (l.length : Int) < ((l ++ zs y_4).length : Int)) ∧ ((0 : Nat) ≤ (Int.toNat (l.length : Int))) ∧ (y_3 ∧ (pre96 ((y_6, ()), at_, (l.length : Int), y_5, ())) ∧ (((!true) = true → (Q .ret (⟨[(6, .c (.bool false))], [((.x 0), [.mref (.x 0 0)])], [(.x 0 0, LC.mk (U := U) .u64 (y_6.set (Int.toNat at_) (pntW at_ (l.length : Int) y_5)) 0)]⟩ : LSt U))) ∧ ((!true) = false → (LoopWp (A98 N [1, 1, 1, 1, 1, 1, 1, 1, 0, 1, 0, 0]) (head98_0 l at_ t (y_6.set (Int.toNat at_) (pntW at_ (l.length : Int) y_5)) 0) (AExit.inBlock 0 (S98 N [1, 1, 1, 1, 1, 1, 1, 1, 1] Q)))))))))))))) :
    A98 N [] (⟨[(0, .ptr (.x 0) 0), (1, .c (.int .i64 at_)), (2, .agg [.int .i64 (Tree.kind t), .slice (U := U) .u64 (Tree.words t) .unk, .slice (U := U) .tree (Tree.kids t) .unk])], [((.x 0), [.mref (.x 0 0)])], [(.x 0 0, LC.mk (U := U) .u64 l 0)]⟩ : LSt U) Q :=
  (Eq.mpr (by kernel_rfl) (h _ (reTree_eq _) _ rfl _ rfl _ rfl _ rfl _ rfl) :)
theorem vc98_l0 (N : Nat) (l : List Int) (at_ : Int) (t : Tree) (rx_0_0 : List Int) (x64 : Int) (N0 : LSt U → Prop) (Q : AExit → LSt U → Prop) (h : ∀ y_1, y_1 = (t) → ∀ y_2, y_2 = (List.getD (Tree.kids t) (Int.toNat x64) Tree.nil) → ∀ y_3, y_3 = (y_2) → ∀ y_4, y_4 = (Ptr.mk 1 ((Tree.kids t).length : Int) (frW (Tree.kids y_1) : Int) (frK (Tree.kids y_1) : Int) 0 0 0 false) → (((decide ((x64 : Int) < ((Tree.kids t).length : Int))) = true → ((0 : Int) ≤ x64 ∧ x64 < ((Tree.kids t).length : Int)) ∧ ((InR (((l.length : Int) : Int) + 1)) ∧ (InR ((x64 : Int) * (((frW (Tree.kids y_1) : Int) : Int) + (frK (Tree.kids y_1) : Int)))) ∧ (InR (((((l.length : Int) : Int) + 1) : Int) + ((x64 : Int) * (((frW (Tree.kids y_1) : Int) : Int) + (frK (Tree.kids y_1) : Int))))) ∧ (pre97 ((rx_0_0, ()), (((((l.length : Int) : Int) + 1) : Int) + ((x64 : Int) * (((frW (Tree.kids y_1) : Int) : Int) + (frK (Tree.kids y_1) : Int)))), (frW (Tree.kids y_1) : Int), y_3, ())) ∧ (mu97 ((rx_0_0, ()), (((((l.length : Int) : Int) + 1) : Int) + ((x64 : Int) * (((frW (Tree.kids y_1) : Int) : Int) + (frK (Tree.kids y_1) : Int)))), (frW (Tree.kids y_1) : Int), y_3, ()) < N) ∧ (((!true) = true → (Q .ret (⟨[(6, .c (.bool false))], [((.x 0), [.mref (.x 0 0)])], [(.x 0 0, LC.mk (U := U) .u64 (strR rx_0_0 (((((l.length : Int) : Int) + 1) : Int) + ((x64 : Int) * (((frW (Tree.kids y_1) : Int) : Int) + (frK (Tree.kids y_1) : Int)))) (frW (Tree.kids y_1) : Int) y_3) 0)]⟩ : LSt U))) ∧ ((!true) = false → (InR ((x64 : Int) + 1)) ∧ (N0 (head98_0 l at_ t (strR rx_0_0 (((((l.length : Int) : Int) + 1) : Int) + ((x64 : Int) * (((frW (Tree.kids y_1) : Int) : Int) + (frK (Tree.kids y_1) : Int)))) (frW (Tree.kids y_1) : Int) y_3) ((x64 : Int) + 1))))))) ∧ ((decide ((x64 : Int) < ((Tree.kids t).length : Int))) = false → (Tr ((!(eqP (decP (encW y_4)) y_4 && !decide (Ptr.kind y_4 = 4))) = true)) ∧ (Tr ((!(eqP (decP (encW y_4)) y_4 && !decide (Ptr.kind y_4 = 4))) = true)) ∧ (Tr ((!(eqP (decP (encW y_4)) y_4 && !decide (Ptr.kind y_4 = 4))) = true)) ∧ (Tr ((!(eqP (decP (encW y_4)) y_4 && !decide (Ptr.kind y_4 = 4))) = true)) ∧ ((!(eqP (decP (encW y_4)) y_4 && !decide (Ptr.kind y_4 = 4))) = true → InR ((((Tree.kids t).length : Int) : Int) + (((frW (Tree.kids y_1) : Int) : Int) + (frK (Tree.kids y_1) : Int)))) ∧ (Tr ((!(eqP (decP (encW y_4)) y_4 && !decide (Ptr.kind y_4 = 4))) = true)) ∧ (((eqP (decP (encW y_4)) y_4 && !decide (Ptr.kind y_4 = 4)) = false → (!(eqP (decP (encW y_4)) y_4 && !decide (Ptr.kind y_4 = 4))) = true)) ∧ (Q .ret (⟨[(6, .c (.bool (bif (eqP (decP (encW y_4)) y_4 && !decide (Ptr.kind y_4 = 4)) then true else ((((((Tree.kids t).length : Int) : Int) + (((frW (Tree.kids y_1) : Int) : Int) + (frK (Tree.kids y_1) : Int))) : Int) == 0))))], [((.x 0), [.mref (.x 0 0)])], [(.x 0 0, LC.mk (U := U) .u64 rx_0_0 0)]⟩ : LSt U))))) :
    A98 N [1, 1, 1, 1, 1, 1, 1, 1, 0, 1, 0, 0] (head98_0 l at_ t rx_0_0 x64) (AExit.then N0 (AExit.inBlock 0 (S98 N [1, 1, 1, 1, 1, 1, 1, 1, 1] Q))) :=
  (Eq.mpr (by kernel_rfl) (h _ (reTree_eq _) _ rfl _ (reTree_eq _) _ rfl) :)
abbrev Body98 (N : Nat) (l : List Int) (at_ : Int) (t : Tree)  : Prop := awp cfg (know (know98 N)) (drawOk cfg (know (know98 N))) Try.f98.ntmps lv98 (cd Try.f98 []) (entryL (args98.can ((l, ()), at_, t, ())) (args98.canX ((l, ()), at_, t, ())) (args98.canL ((l, ()), at_, t, ()))) (EndsQL cfg Try.f98.ntmps Try.f98.results.toList (res98 ((l, ()), at_, t, ())) (resX98 ((l, ()), at_, t, ())) (resL98 ((l, ()), at_, t, ())))
abbrev HB98 : Prop := ∀ (N : Nat) (l : List Int) (at_ : Int) (t : Tree) (_ : Unit), pre98 ((l, ()), at_, t, ()) → mu98 ((l, ()), at_, t, ()) < N + 1 → Body98 N l at_ t
theorem make74_ (c75 : Contract Try.prog cfg 75 spec75) (c96 : Contract Try.prog cfg 96 spec96) (c100 : Contract Try.prog cfg 100 spec100) (c1101 : Contract Try.prog cfg 101 spec1101) (c119 : Contract Try.prog cfg 119 spec119) (c120 : Contract Try.prog cfg 120 spec120) (b74 : HB74) (b99 : HB99) (b97 : HB97) (b98 : HB98) :
    Contract Try.prog cfg 74 spec74 ∧ Contract Try.prog cfg 99 spec99 ∧ Contract Try.prog cfg 97 spec97 ∧ Contract Try.prog cfg 98 spec98 := by
  have h74 : ∃ fn, Try.prog.funcs[(74 : FuncId)]? = some fn ∧ fn.body.isSome = true ∧ (fn.name == "runtime.NumGoroutine") = false := ⟨Try.f74, Try.func74, rfl, rfl⟩
  have h99 : ∃ fn, Try.prog.funcs[(99 : FuncId)]? = some fn ∧ fn.body.isSome = true ∧ (fn.name == "runtime.NumGoroutine") = false := ⟨Try.f99, Try.func99, rfl, rfl⟩
  have h97 : ∃ fn, Try.prog.funcs[(97 : FuncId)]? = some fn ∧ fn.body.isSome = true ∧ (fn.name == "runtime.NumGoroutine") = false := ⟨Try.f97, Try.func97, rfl, rfl⟩
  have h98 : ∃ fn, Try.prog.funcs[(98 : FuncId)]? = some fn ∧ fn.body.isSome = true ∧ (fn.name == "runtime.NumGoroutine") = false := ⟨Try.f98, Try.func98, rfl, rfl⟩
  have key : ∀ N, Contract Try.prog cfg 74 (fsXL args74 (fun a => [pre74 a, mu74 a < N]) res74 resX74 resL74) ∧ Contract Try.prog cfg 99 (fsXL args99 (fun a => [pre99 a, mu99 a < N]) res99 resX99 resL99) ∧ Contract Try.prog cfg 97 (fsXL args97 (fun a => [pre97 a, mu97 a < N]) res97 resX97 resL97) ∧ Contract Try.prog cfg 98 (fsXL args98 (fun a => [pre98 a, mu98 a < N]) res98 resX98 resL98) := by
    intro N
    induction N with
    | zero => exact ⟨fsXL_zero h74, fsXL_zero h99, fsXL_zero h97, fsXL_zero h98⟩
    | succ N ih =>
      have kn := know_ok (l := know74 N) ⟨ih.1, ih.2.1, ih.2.2.1, ih.2.2.2, c75, c96, c100, c1101, c119, c120, trivial⟩
      exact ⟨contract_fsXL (Γ := know (know74 N)) cfgOk rfl kn lv74 Try.func74 rfl rfl (fun a => by show 3 ≤ _; decide) (fun ⟨⟨l, _⟩, at_, t, _⟩ h => b74 N l at_ t () h.1 h.2.1),
        contract_fsXL (Γ := know (know74 N)) cfgOk rfl kn lv99 Try.func99 rfl rfl (fun a => by show 3 ≤ _; decide) (fun ⟨⟨l, _⟩, at_, t, _⟩ h => b99 N l at_ t () h.1 h.2.1),
        contract_fsXL (Γ := know (know74 N)) cfgOk rfl kn lv97 Try.func97 rfl rfl (fun a => by show 4 ≤ _; decide) (fun ⟨⟨l, _⟩, at_, n, t, _⟩ h => b97 N l at_ n t () h.1 h.2.1),
        contract_fsXL (Γ := know (know74 N)) cfgOk rfl kn lv98 Try.func98 rfl rfl (fun a => by show 3 ≤ _; decide) (fun ⟨⟨l, _⟩, at_, t, _⟩ h => b98 N l at_ t () h.1 h.2.1)⟩
  exact ⟨fsXL_less fun N => (key N).1, fsXL_less fun N => (key N).2.1, fsXL_less fun N => (key N).2.2.1, fsXL_less fun N => (key N).2.2.2⟩
end Go.AM.Ythokdjgpdonhgaa

namespace Go.AM.Ythokdjgpdonhgaa
open Go.AM Go.Proofs
def KidsOk (ks : List Tree) : Prop := ∀ k ∈ ks, k.kind ≠ 10 ∧ ∃ d, rightT k d = true
theorem kidsP_blk' : ∀ (ks : List Tree) (a to : Int), KidsOk ks → (kidsP ks a to).2.length = sizeK ks
  | [], _, _, _ => by rw [kidsP, sizeK]; rfl
  | t :: r, a, to, h => by
    obtain ⟨h1, d, h2⟩ := h t List.mem_cons_self
    rw [kidsP, sizeK, List.length_append, blkP_len t d to h2 h1, kidsP_blk' r _ _ fun t ht => h t (List.mem_cons_of_mem _ ht)]
theorem KidsOk.take {ks : List Tree} (h : KidsOk ks) (n : Nat) : KidsOk (ks.take n) := fun k hk => h k (List.mem_of_mem_take hk)
theorem kst_pre {A S : List Int} {ks : List Tree} {to : Int} {i : Nat} (hi : i < ks.length) (hK : KidsOk ks) (hl : A.length + ks.length + S.length + sizeK ks ≤ 1000000) :
    A.length + i < (kidsSt A S ks to i).length ∧ (kidsSt A S ks to i).length + sizeN (ks.getD i Tree.nil) ≤ 1000000 := by
  have h1 := kidsSt_len A S ks to (Nat.le_of_lt hi)
  rw [kidsP_blk' _ _ _ (hK.take i)] at h1
  have h2 := sizeK_take (ks := ks) (i := i) (by omega) (by omega)
  have h3 := sizeK_take_le ks (i + 1)
  rw [show ((i : Int) + 1).toNat = i + 1 by omega, Int.toNat_natCast] at h2
  omega
theorem kid_rng {t : Tree} (h : rng t) {k : Tree} (hk : k ∈ t.kids) : rng k := by
  obtain ⟨k', w, ks⟩ := t
  rw [rng] at h
  have : ∀ l : List Tree, rngK l → ∀ t' ∈ l, rng t' := by
    intro l
    induction l with
    | nil => intro _ t' h; cases h
    | cons x l ih =>
      intro h t' ht
      rw [rngK] at h
      rcases List.mem_cons.1 ht with rfl | ht
      · exact h.1
      · exact ih h.2 t' ht
  exact this ks h.2.2 k hk
theorem RiT.kidsOk {k : Int} {w : List Int} {ks : List Tree} {d : Int} (h : RiT k w ks d) (hk : k = 1 ∨ k = 8) : KidsOk ks := fun t ht => ⟨(h.kids t ht).2.2.1 hk, _, (h.kids t ht).1⟩
theorem fr_lt {ks : List Tree} (h : ∀ t ∈ ks, t.words.length < 65536 ∧ t.kids.length < 65536) : frW ks < 65536 ∧ frK ks < 65536 := by
  induction ks with
  | nil => exact ⟨by simp [frW], by simp [frK]⟩
  | cons t l ih =>
    have h1 := h t List.mem_cons_self
    have h2 := ih fun t ht => h t (List.mem_cons_of_mem _ ht)
    rw [frW, frK]
    omega
theorem riT' {t : Tree} {d : Int} (h : rightT t d = true) : RiT t.kind t.words t.kids d := riT (by rw [Tree.eta]; exact h)
theorem RiT.rows {w : List Int} {ks : List Tree} {d : Int} (h : RiT 9 w ks d) : ∀ t ∈ ks, t.kind = 1 ∧ KidsOk t.kids ∧ t.words.length < 65536 ∧ t.kids.length < 65536 := by
  intro t ht
  have h1 := h.kids t ht
  have hk := h1.2.2.2 rfl
  have r := riT' h1.1
  rw [hk] at r
  exact ⟨hk, r.kidsOk (.inl rfl), r.stru rfl⟩
theorem rowsP_blk' (fw fk : Nat) : ∀ (ks : List Tree) (a to : Int), (∀ t ∈ ks, KidsOk t.kids) → (rowsP fw fk ks a to).2.length = sizeR ks
  | [], _, _, _ => by rw [rowsP, sizeR]; rfl
  | .mk k w l :: r, a, to, h => by
    have h1 := h _ List.mem_cons_self
    rw [rowsP, sizeR, List.length_append, kidsP_blk' l _ _ h1, rowsP_blk' fw fk r _ _ fun t ht => h t (List.mem_cons_of_mem _ ht)]
theorem size_eq (t : Tree) : sizeN t = if t.kind = 1 then t.words.length + t.kids.length + sizeK t.kids else if t.kind = 8 then t.kids.length + sizeK t.kids else if t.kind = 9 then 1 + t.kids.length * (frW t.kids + frK t.kids) + sizeR t.kids
    else if 2 ≤ t.kind ∧ t.kind ≤ 7 then (roomW (t.kind - 2) t.kids.length).toNat else sizeK t.kids := by
  obtain ⟨k, w, ks⟩ := t
  rw [sizeN]; rfl
theorem head_eq (a to : Int) (t : Tree) : headP a to t = if t.kind = 0 then 0
    else if t.kind = 1 then ptrP a (if t.words.length + t.kids.length = 0 then a else to) 0 (t.words.length + 65536 * t.kids.length)
    else if t.kind = 8 then ptrP a to 1 (6 + 8 * t.kids.length)
    else if t.kind = 9 then ptrP a to 1 (7 + 8 * (t.kids.length * (frW t.kids + frK t.kids) : Nat))
    else ptrP a to 1 (t.kind - 2 + 8 * t.kids.length) := by
  obtain ⟨k, w, ks⟩ := t
  rfl
theorem blk_eq (t : Tree) (to : Int) : blkP t to = if t.kind = 0 then []
    else if t.kind = 1 then t.words ++ ((kidsP t.kids (to + t.words.length) (to + t.words.length + t.kids.length)).1 ++ (kidsP t.kids (to + t.words.length) (to + t.words.length + t.kids.length)).2)
    else if t.kind = 8 then (kidsP t.kids to (to + t.kids.length)).1 ++ (kidsP t.kids to (to + t.kids.length)).2
    else if t.kind = 9 then tagP t.kids.length (frW t.kids) (frK t.kids) :: ((rowsP (frW t.kids) (frK t.kids) t.kids (to + 1) (to + 1 + (t.kids.length * (frW t.kids + frK t.kids) : Nat))).1 ++ (rowsP (frW t.kids) (frK t.kids) t.kids (to + 1) (to + 1 + (t.kids.length * (frW t.kids + frK t.kids) : Nat))).2)
    else putR (t.kind - 2) (numsP t.kids) := by
  obtain ⟨k, w, ks⟩ := t
  rw [blkP]; rfl
end Go.AM.Ythokdjgpdonhgaa

namespace Go.AM.Ythokdjgpdonhgaa
open Go.AM Go.Proofs
theorem zsAt_mk (A S : List Int) (n : Nat) : zsAt (A ++ (zs n ++ S)) A.length n := ⟨A, S, rfl, rfl⟩
theorem take_mk (A B : List Int) {a : Nat} (h : A.length = a) : (A ++ B).take a = A := by rw [← h, List.take_left]
theorem drop_mk (A B : List Int) {a : Nat} (h : A.length = a) : (A ++ B).drop a = B := by rw [← h, List.drop_left]
theorem strR_mk {X Y : List Int} {fw : Nat} {t : Tree} {a : Nat} (ha : X.length = a) (hw : t.words.length ≤ fw) (n : Nat) :
    strR (X ++ (zs (fw + (t.kids.length + n)) ++ Y)) a fw t = X ++ (t.words ++ (zs (fw - t.words.length) ++ ((kidsP t.kids ((a : Int) + fw) (X ++ (zs (fw + (t.kids.length + n)) ++ Y)).length).1 ++ (zs n ++ (Y ++ (kidsP t.kids ((a : Int) + fw) (X ++ (zs (fw + (t.kids.length + n)) ++ Y)).length).2))))) := by
  generalize hP : kidsP t.kids ((a : Int) + fw) (X ++ (zs (fw + (t.kids.length + n)) ++ Y)).length = P
  unfold strR
  rw [hP, Int.toNat_natCast, Int.toNat_natCast, take_mk _ _ ha]
  have e : X ++ (zs (fw + (t.kids.length + n)) ++ Y) = (X ++ zs (fw + t.kids.length)) ++ (zs n ++ Y) := by
    rw [← Nat.add_assoc, zs_add (fw + t.kids.length) n]
    simp only [List.append_assoc]
  rw [e, drop_mk (a := a + fw + t.kids.length) _ _ (by rw [List.length_append, zs_len]; omega)]
  simp only [List.append_assoc]
theorem row_str {A : List Int} {fw fk : Nat} {ks : List Tree} (h : Fit fw fk ks) {i : Nat} (hi : i < ks.length) :
    zsAt (rowSt A (zs ((ks.length - i) * (fw + fk))) fw fk ks i) (A.length + i * (fw + fk)) (fw + (ks.getD i Tree.nil).kids.length) ∧
      strR (rowSt A (zs ((ks.length - i) * (fw + fk))) fw fk ks i) ((A.length + i * (fw + fk) : Nat) : Int) fw (ks.getD i Tree.nil) = rowSt A (zs ((ks.length - (i + 1)) * (fw + fk))) fw fk ks (i + 1) := by
  have hf := h.get hi
  have hall := row_all (A := A) (R := zs ((ks.length - (i + 1)) * (fw + fk))) h hi (zs_len _)
  have hz := row_zero (A := A) (R := zs ((ks.length - (i + 1)) * (fw + fk))) h hi 0
  have hAl := rowA_len (A := A) h hi
  have hSl := rowS_len (A := A) (R := zs ((ks.length - (i + 1)) * (fw + fk))) h hi (zs_len _)
  generalize hk : ks.getD i Tree.nil = t at *
  have ez : (ks.length - i) * (fw + fk) = fw + (t.kids.length + ((fk - t.kids.length) + (ks.length - (i + 1)) * (fw + fk))) := by
    have : (ks.length - i) * (fw + fk) = (ks.length - (i + 1)) * (fw + fk) + (fw + fk) := by rw [← Nat.succ_mul]; congr 1; omega
    omega
  have eL : rowSt A (zs ((ks.length - i) * (fw + fk))) fw fk ks i = (A ++ (rowsP fw fk (ks.take i) A.length (A.length + ks.length * (fw + fk) : Nat)).1) ++ (zs (fw + (t.kids.length + ((fk - t.kids.length) + (ks.length - (i + 1)) * (fw + fk)))) ++ (rowsP fw fk (ks.take i) A.length (A.length + ks.length * (fw + fk) : Nat)).2) := by
    unfold rowSt
    rw [ez]
    simp only [List.append_assoc]
  have eX : (A ++ (rowsP fw fk (ks.take i) A.length (A.length + ks.length * (fw + fk) : Nat)).1).length = A.length + i * (fw + fk) := by
    rw [List.length_append, rowsP_len _ _ _ (h.take i), List.length_take, Nat.min_eq_left (Nat.le_of_lt hi)]
  constructor
  · rw [eL, ← eX, ← Nat.add_assoc fw, zs_add]
    have := zsAt_mk (A ++ (rowsP fw fk (ks.take i) A.length (A.length + ks.length * (fw + fk) : Nat)).1) (zs ((fk - t.kids.length) + (ks.length - (i + 1)) * (fw + fk)) ++ (rowsP fw fk (ks.take i) A.length (A.length + ks.length * (fw + fk) : Nat)).2) (fw + t.kids.length)
    rwa [← List.append_assoc (zs _)] at this
  · have hlen : ((A ++ (rowsP fw fk (ks.take i) A.length (A.length + ks.length * (fw + fk) : Nat)).1) ++ (zs (fw + (t.kids.length + ((fk - t.kids.length) + (ks.length - (i + 1)) * (fw + fk)))) ++ (rowsP fw fk (ks.take i) A.length (A.length + ks.length * (fw + fk) : Nat)).2)).length = (rowA A fw fk ks i).length + t.kids.length + (rowS A (zs ((ks.length - (i + 1)) * (fw + fk))) fw fk ks i).length := by
      rw [hSl, List.length_append, eX, List.length_append, zs_len]
      have : ks.length * (fw + fk) = i * (fw + fk) + (ks.length - i) * (fw + fk) := by rw [← Nat.add_mul]; congr 1; omega
      omega
    rw [eL, strR_mk eX hf.1, hlen, ← hall, kidsSt_all, hAl]
    unfold rowA rowS
    rw [hk, zs_add (fk - t.kids.length)]
    simp only [List.append_assoc, Int.natCast_add]
theorem cpL_mk {X Y w : List Int} {n : Nat} {a : Nat} (ha : X.length = a) (hw : w.length ≤ n) : cpL (X ++ (zs n ++ Y)) a w = X ++ (w ++ (zs (n - w.length) ++ Y)) := by
  unfold cpL
  have e : X ++ (zs n ++ Y) = (X ++ zs w.length) ++ (zs (n - w.length) ++ Y) := by
    rw [show n = w.length + (n - w.length) by omega, zs_add]
    simp only [List.append_assoc, show w.length + (n - w.length) - w.length = n - w.length by omega]
  rw [take_mk _ _ ha, List.take_of_length_le (by simp only [List.length_append, zs_len]; omega)]
  conv => lhs; rw [e]
  rw [drop_mk (a := a + w.length) _ _ (by rw [List.length_append, zs_len]; omega)]
theorem set_left {l b : List Int} {a : Nat} (h : a < l.length) (x : Int) : (l ++ b).set a x = l.set a x ++ b := List.set_append_left _ _ h
theorem b99 : HB99 := by
  intro N l at_ t _ hp hN
  obtain ⟨⟨h1, h2, h3⟩, ⟨hm, hg⟩, hK⟩ := hp
  dsimp only at h1 h2 h3 hm hg hK
  have hN : 4 * mass t + 1 < N + 1 := hN
  obtain ⟨a, rfl⟩ := Int.eq_ofNat_of_zero_le h1
  rw [Int.toNat_natCast] at h3
  have hk := kids_le t
  obtain ⟨s1, s2, s3⟩ := zsAt_split h3
  have hl := kidzR_len h3
  refine vc99 _ _ _ _ _ ?_
  refine loop_rule (ι := Int) (fun p => head99_0 l a t p (kidsSt (l.take a) (l.drop (a + t.kids.length)) t.kids l.length p.toNat)) (fun p => 0 ≤ p ∧ p ≤ t.kids.length) (fun p => ((t.kids.length : Int) - p).toNat) 0 (by rw [show (0 : Int).toNat = 0 from rfl, kidzR_zero h3]) ⟨by omega, by omega⟩ ?_
  rintro i ⟨g1, g2⟩
  refine vc99_l0 _ _ _ _ _ _ _ _ ?_
  (simp only [vcT, vcS])
  simp only [Tree.eta, vcF]
  refine ⟨fun hi => ?_, fun hi => ?_⟩
  · have m1 := kid_mass (t := t) (i := i.toNat) (by omega)
    have m4 := mem_getD (l := t.kids) (i := i.toNat) (by omega) Tree.nil
    obtain ⟨p1, p2⟩ := kst_pre (A := l.take a) (S := l.drop (a + t.kids.length)) (ks := t.kids) (to := l.length) (i := i.toNat) (by omega) hK (by rw [hl]; exact h2)
    rw [s2] at p1
    have st := kidzR_step h3 (i := i.toNat) (by omega)
    refine ⟨⟨g1, hi⟩, ?_, ⟨⟨?_, ?_, ?_⟩, ⟨?_, kid_rng hg m4⟩, (hK _ m4).1, (hK _ m4).2⟩, ?_, by ((unfold InR; omega)), i + 1, ?_, ⟨by omega, by omega⟩, by omega⟩
    · show InR ((a : Int) + i); ((unfold InR; omega))
    · show 0 ≤ (a : Int) + i; omega
    · show (a : Int) + i < ((kidsSt (l.take a) (l.drop (a + t.kids.length)) t.kids l.length i.toNat).length : Nat); omega
    · exact p2
    · show mass (t.kids.getD i.toNat Tree.nil) ≤ 1000000; omega
    · show 4 * mass (t.kids.getD i.toNat Tree.nil) + 3 < N; omega
    · rw [show (i + 1).toNat = i.toNat + 1 by omega, ← st, show ((i.toNat : Nat) : Int) = i by omega]
  · have e : i = t.kids.length := by omega
    subst e
    rw [Int.toNat_natCast, kidzR_all h3]
    (repeat' (first | exact trivial | exact rfl | apply And.intro))
theorem b97 : HB97 := by
  intro N l at_ n t _ hp hN
  obtain ⟨⟨⟨h1, h4⟩, h2, h3⟩, ⟨hm, hg⟩, hK⟩ := hp
  dsimp only at h1 h2 h3 h4 hm hg hK
  have hN : 4 * mass t + 2 < N + 1 := hN
  obtain ⟨a, rfl⟩ := Int.eq_ofNat_of_zero_le h1
  obtain ⟨m, rfl⟩ := Int.eq_ofNat_of_zero_le (show 0 ≤ n by omega)
  rw [Int.toNat_natCast, Int.toNat_natCast] at h3
  have h4 : t.words.length ≤ m := by have : (t.words.length : Int) ≤ (m : Int) := h4; omega
  obtain ⟨X, Y, rfl, ha⟩ := h3
  have hlen : (X ++ (zs (m + t.kids.length) ++ Y)).length = a + (m + t.kids.length) + Y.length := by simp only [List.length_append, zs_len]; omega
  have ecp : cpL (X ++ (zs (m + t.kids.length) ++ Y)) a t.words = (X ++ (t.words ++ zs (m - t.words.length))) ++ (zs t.kids.length ++ Y) := by
    rw [cpL_mk ha (by omega), show m + t.kids.length - t.words.length = (m - t.words.length) + t.kids.length by omega, zs_add]
    simp only [List.append_assoc]
  have eX : (X ++ (t.words ++ zs (m - t.words.length))).length = a + m := by simp only [List.length_append, zs_len]; omega
  have hl2 : ((X ++ (t.words ++ zs (m - t.words.length))) ++ (zs t.kids.length ++ Y)).length = (X ++ (zs (m + t.kids.length) ++ Y)).length := by
    rw [hlen, List.length_append, eX]; simp only [List.length_append, zs_len]; omega
  have hz : zsAt ((X ++ (t.words ++ zs (m - t.words.length))) ++ (zs t.kids.length ++ Y)) (a + m) t.kids.length := by rw [← eX]; exact zsAt_mk _ _ _
  have eres : kidzR ((X ++ (t.words ++ zs (m - t.words.length))) ++ (zs t.kids.length ++ Y)) ((a : Int) + m) t = strR (X ++ (zs (m + t.kids.length) ++ Y)) a m t := by
    have := strR_mk (X := X) (Y := Y) (fw := m) (t := t) ha h4 0
    rw [Nat.add_zero] at this
    rw [this]
    unfold kidzR
    rw [hl2, show ((a : Int) + m).toNat = a + m by omega, take_mk _ _ eX, ← List.append_assoc _ (zs t.kids.length) Y, drop_mk (a := a + m + t.kids.length) _ _ (by rw [List.length_append, eX, zs_len])]
    simp [zs]
  refine vc97 N (X ++ (zs (m + t.kids.length) ++ Y)) a m t _ ?_
  simp only [Tree.eta]
  rw [Int.toNat_natCast, ecp]
  refine ⟨⟨by omega, by rw [hlen]; omega⟩, Nat.zero_le _, ?_, ⟨⟨?_, ?_, ?_⟩, ⟨hm, hg⟩, hK⟩, ?_, ?_⟩
  · show InR ((a : Int) + m)
    rw [hlen] at h2
    ((unfold InR; omega))
  · show 0 ≤ (a : Int) + m; omega
  · show ((X ++ (t.words ++ zs (m - t.words.length))) ++ (zs t.kids.length ++ Y)).length + _ ≤ _; rw [hl2]; exact h2
  · show zsAt _ ((a : Int) + m).toNat _
    rw [show ((a : Int) + m).toNat = a + m by omega]
    exact hz
  · show 4 * mass t + 1 < N; omega
  · rw [eres]
    (repeat' (first | exact trivial | exact rfl | apply And.intro))
theorem pnt_head1 {a to : Int} {t : Tree} (k1 : t.kind = 1) : pntW a to (Ptr.mk 1 0 (t.words.length : Int) (t.kids.length : Int) 0 0 0 false) = headP a to t := by
  rw [head_eq, if_neg (by omega), if_pos k1]
  unfold pntW
  dsimp only
  rw [if_pos rfl]
  congr 1
  split <;> split <;> omega
theorem pnt_head {a to : Int} {c n : Int} : pntW a to (Ptr.mk 2 0 0 0 c n 0 false) = ptrP a to 1 (c + 8 * n) := by
  unfold pntW
  dsimp only
  rw [if_neg (by decide)]
theorem pntOk1 {o d p : Int} (hd : 0 ≤ d ∧ d < 65536) (hp : 0 ≤ p ∧ p < 65536) : pntOk (Ptr.mk 1 o d p 0 0 0 false) := ⟨.inl ⟨rfl, hd, hp, rfl, rfl⟩, rfl, rfl⟩
theorem pntOk2 {o c n : Int} (hc : 0 ≤ c ∧ c < 8) (hn : 0 ≤ n ∧ n < 536870912) : pntOk (Ptr.mk 2 o 0 0 c n 0 false) := ⟨.inr ⟨rfl, rfl, rfl, hc, hn⟩, rfl, rfl⟩
set_option maxHeartbeats 1000000 in
theorem b74 : HB74 := by
  intro N l at_ t _ hp hN
  obtain ⟨⟨h1, h2, h3⟩, ⟨hm, hg⟩, h10, d, hr⟩ := hp
  dsimp only at h1 h2 h3 hm hg h10 hr
  have hN : 4 * mass t + 3 < N + 1 := hN
  obtain ⟨a, rfl⟩ := Int.eq_ofNat_of_zero_le h1
  have h2 : a < l.length := by have : (a : Int) < l.length := h2; omega
  have rt := riT' hr
  have hk := kids_le t
  have hkr := rt.kind
  have hlen := rt.len
  have fin : ∀ {L : List Int}, L = layP l a t → EndsQL cfg Try.f74.ntmps Try.f74.results.toList (res74 ((l, ()), (a : Int), t, ())) (resX74 ((l, ()), (a : Int), t, ())) (resL74 ((l, ()), (a : Int), t, ())) .ret (⟨[(6, .c (.bool true))], [((.x 0), [.mref (.x 0 0)])], [(.x 0 0, LC.mk (U := U) .u64 L 0)]⟩ : LSt U) := by
    rintro L rfl
    (repeat' (first | exact trivial | exact rfl | apply And.intro))
  have lay : ∀ {h : Int} {b : List Int}, t.kind ≠ 0 → headP a l.length t = h → blkP t l.length = b → l.set a h ++ b = layP l a t := by
    rintro h b h0 rfl rfl
    unfold layP
    rw [if_neg h0]
    rfl
  refine vc74 N l a t _ ?_
  rintro y1 rfl y2 e2 y3 e3 y4 e4
  (simp only [vcT, vcS])
  simp only [vcF, Int.toNat_natCast]
  refine ⟨fun k0 => fin (by unfold layP; rw [if_pos k0]), fun k0 => ⟨fun k1 => ?_, fun k1 => ⟨fun k9 => ?_, fun k9 => ⟨fun k8 => ?_, fun k8 => ?_⟩⟩⟩⟩
  · have hs := rt.stru k1
    have sz := size_eq y1
    rw [if_pos k1] at sz
    have hb := blk_eq y1 l.length
    rw [if_neg k0, if_pos k1] at hb
    have kOk := rt.kidsOk (.inl k1)
    have e2 : y2 = y1.words.length + (y1.kids.length + 0) := by omega
    rw [e3, pnt_head1 k1, set_left h2, e2]
    have hls : (l.set a (headP a l.length y1)).length = l.length := by simp
    have hz : l.set a (headP a l.length y1) ++ zs (y1.words.length + (y1.kids.length + 0)) = l.set a (headP a l.length y1) ++ (zs (y1.words.length + (y1.kids.length + 0)) ++ []) := by simp
    have hst := strR_mk (X := l.set a (headP a l.length y1)) (Y := []) (fw := y1.words.length) (t := y1) hls (Nat.le_refl _) 0
    rw [← hz] at hst
    rw [hst]
    refine ⟨by ((unfold InR; omega)), ⟨by dsimp only; omega, by dsimp only; omega, by dsimp only; omega⟩, ⟨⟨by dsimp only; omega, ?_, by dsimp only; omega, by dsimp only; omega⟩, pntOk1 (by omega) (by omega)⟩, ⟨⟨⟨by dsimp only; omega, by dsimp only; omega⟩, ?_, ?_⟩, ⟨hm, hg⟩, kOk⟩, ?_, fin ?_⟩
    · dsimp only; rw [List.length_append, zs_len]; omega
    · dsimp only; rw [List.length_append, hls, zs_len]; omega
    · dsimp only
      rw [Int.toNat_natCast, Int.toNat_natCast, hz]
      have := zsAt_mk (l.set a (headP a l.length y1)) [] (y1.words.length + (y1.kids.length + 0))
      rw [hls] at this
      exact this
    · show 4 * mass y1 + 2 < N; omega
    · rw [← lay k0 rfl hb, Nat.sub_self, List.length_append, hls, zs_len]
      simp [zs, Int.add_assoc]
  · refine ⟨⟨⟨h1, by dsimp only; omega, h3⟩, ⟨hm, hg⟩, h10, d, hr, k9⟩, ?_, fin rfl⟩
    show 4 * mass y1 + 2 < N
    omega
  · have sz := size_eq y1
    rw [if_neg k1, if_pos k8] at sz
    have hh := head_eq a l.length y1
    rw [if_neg k0, if_neg k1, if_pos k8] at hh
    have hb := blk_eq y1 l.length
    rw [if_neg k0, if_neg k1, if_pos k8] at hb
    have kOk := rt.kidsOk (.inr k8)
    rw [e4, pnt_head, ← hh, set_left h2]
    have hls : (l.set a (headP a l.length y1)).length = l.length := by simp
    have hz : l.set a (headP a l.length y1) ++ zs y1.kids.length = l.set a (headP a l.length y1) ++ (zs y1.kids.length ++ []) := by simp
    refine ⟨⟨by dsimp only; omega, by dsimp only; omega, by dsimp only; omega⟩, ⟨⟨by dsimp only; omega, ?_, by dsimp only; omega, by dsimp only; omega⟩, pntOk2 (by omega) (by omega)⟩, ⟨⟨by dsimp only; omega, ?_, ?_⟩, ⟨hm, hg⟩, kOk⟩, ?_, fin ?_⟩
    · dsimp only; rw [List.length_append, zs_len]; omega
    · dsimp only; rw [List.length_append, hls, zs_len]; omega
    · dsimp only
      rw [Int.toNat_natCast, hz]
      have := zsAt_mk (l.set a (headP a l.length y1)) [] y1.kids.length
      rw [hls] at this
      exact this
    · show 4 * mass y1 + 1 < N; omega
    · rw [← lay k0 rfl hb]
      unfold kidzR
      rw [Int.toNat_natCast, take_mk _ _ hls, List.drop_of_length_le (by rw [List.length_append, hls, zs_len]; omega), List.length_append, hls, zs_len]
      simp
  · have hk27 : 2 ≤ y1.kind ∧ y1.kind ≤ 7 := by omega
    obtain ⟨hfit, hat⟩ := rt.data hk27.1 hk27.2
    have sz := size_eq y1
    rw [if_neg k1, if_neg k8, if_neg k9, if_pos hk27] at sz
    have hh := head_eq a l.length y1
    rw [if_neg k0, if_neg k1, if_neg k8, if_neg k9] at hh
    have hb := blk_eq y1 l.length
    rw [if_neg k0, if_neg k1, if_neg k8, if_neg k9] at hb
    have hnl : (numsP y1.kids).length = y1.kids.length := by rw [numsP, List.length_map]
    have hnW : okW (numsP y1.kids) := by
      intro x hx
      obtain ⟨t', ht', rfl⟩ := List.mem_map.1 hx
      have := kid_rng hg ht'
      obtain ⟨k', w', l'⟩ := t'
      rw [rng] at this
      exact getD_word this.2.1 0
    have hpl : (putW (y1.kind - 2) (numsP y1.kids)).length = sizeN y1 := by rw [putW_len, hnl, sz]
    refine ⟨by ((unfold InR; omega)), ?_⟩
    refine loop_rule (ι := Int × List Int) (fun p => head74_0 l a y1 p.1 p.2) (fun p => 0 ≤ p.1 ∧ p.1 ≤ y1.kids.length ∧ p.2 = numsP (y1.kids.take p.1.toNat)) (fun p => ((y1.kids.length : Int) - p.1).toNat) (0, []) rfl ⟨by dsimp only; omega, by dsimp only; omega, rfl⟩ ?_
    rintro ⟨i, m⟩ ⟨g1, g2, g3⟩
    dsimp only at g1 g2 g3
    subst g3
    refine vc74_l0 _ _ _ _ _ _ _ _ ?_
    rintro z1 q1 z2 q2 z3 rfl
    (simp only [vcT, vcS])
    refine ⟨fun hi => ?_, fun hi => ?_⟩
    · have hl : (numsP (y1.kids.take i.toNat)).length ≤ y1.kids.length := by rw [numsP, List.length_map, List.length_take]; omega
      refine ⟨⟨g1, hi⟩, trivial, ?_, by ((unfold InR; omega)), (i + 1, _), rfl, ⟨by dsimp only; omega, by dsimp only; omega, ?_⟩, by dsimp only; omega⟩
      · simp only [List.length_singleton]
        omega
      · dsimp only
        rw [takeI g1 hi, numsP, numsP, List.map_append, q1]
        rfl
    · have e : i = y1.kids.length := by omega
      subst e
      simp only [Int.toNat_natCast, List.take_length] at q2 ⊢
      have ecp : cpL (l ++ zs z2) l.length (putW (y1.kind - 2) (numsP y1.kids)) = l ++ putW (y1.kind - 2) (numsP y1.kids) := by
        have := cpL_mk (X := l) (Y := []) (w := putW (y1.kind - 2) (numsP y1.kids)) (n := z2) rfl (by omega)
        rw [List.append_nil] at this
        rw [this, q2]
        simp [zs]
      rw [ecp, pnt_head, set_left h2, ← hh]
      refine ⟨⟨⟨hnW, by dsimp only; omega⟩, hfit⟩, ⟨by dsimp only; omega, by dsimp only; omega, by dsimp only; omega⟩, ⟨by omega, by rw [List.length_append]; omega⟩, Nat.zero_le _, ⟨⟨by dsimp only; omega, by dsimp only; rw [List.length_append]; omega, by dsimp only; omega, by dsimp only; omega⟩, pntOk2 (by omega) (by omega)⟩, fin ?_⟩
      have : blkP y1 l.length = putW (y1.kind - 2) (numsP y1.kids) := by
        rw [hb]
        unfold putR
        rw [if_pos hfit]
      exact lay k0 rfl this
set_option maxHeartbeats 1000000 in
theorem b98 : HB98 := by
  intro N l at_ t _ hp hN
  obtain ⟨⟨h1, h2, h3⟩, ⟨hm, hg⟩, h10, d, hr, k9⟩ := hp
  dsimp only at h1 h2 h3 hm hg h10 hr k9
  have hN : 4 * mass t + 2 < N + 1 := hN
  obtain ⟨a, rfl⟩ := Int.eq_ofNat_of_zero_le h1
  have h2 : a < l.length := by have : (a : Int) < l.length := h2; omega
  have rt := riT' hr
  have hk := kids_le t
  have hlen := rt.len
  rw [k9] at rt
  have rows := rt.rows
  have hfr := fr_lt fun t ht => (rows t ht).2.2
  have hfit : Fit (frW t.kids) (frK t.kids) t.kids := fun t ht => frW_le ht
  have hfm := fr_mass t.kids
  have sz := size_eq t
  rw [if_neg (by omega), if_neg (by omega), if_pos k9] at sz
  have hh := head_eq a l.length t
  rw [if_neg (by omega), if_neg (by omega), if_neg (by omega), if_pos k9] at hh
  have hb := blk_eq t l.length
  rw [if_neg (by omega), if_neg (by omega), if_neg (by omega), if_pos k9] at hb
  refine vc98 N l a t _ ?_
  rintro y1 rfl y2 e2 y3 e3 y4 e4 y5 e5 y6 e6
  have fz : y1.kids.length = 0 → frW y1.kids = 0 ∧ frK y1.kids = 0 := fun h => by
    rw [List.length_eq_zero_iff.1 h]; exact ⟨rfl, rfl⟩
  generalize hfw : frW y1.kids = fw at *
  generalize hfk : frK y1.kids = fk at *
  obtain ⟨P, hP⟩ : ∃ P, P = y1.kids.length * (fw + fk) := ⟨_, rfl⟩
  have hPI : (y1.kids.length : Int) * ((fw : Int) + fk) = P := by rw [hP, Int.natCast_mul, Int.natCast_add]
  rw [← hP] at sz hh hb
  rw [hPI] at e3 e4 e5
  have hy4 : y4 = 1 + P := by omega
  have hy3 : y3 := by rw [e3]; ((unfold InR; omega))
  -- the tag
  have hok : (eqP (decP (encW y2)) y2 && !decide (y2.kind = 4)) = true ∧ encW y2 = tagP y1.kids.length fw fk ∨ (eqP (decP (encW y2)) y2 && !decide (y2.kind = 4)) = false ∧ 0 = tagP y1.kids.length fw fk ∧ y1.kids.length = 0 ∧ fw = 0 ∧ fk = 0 := by
    have hen : encW y2 = tagP y1.kids.length fw fk := by
      rw [e2]
      unfold encW
      dsimp only
      rw [if_pos rfl, if_pos ⟨by omega, by omega, by omega⟩]
      unfold tagP
      omega
    by_cases hz : y1.kids.length = 0
    · right
      obtain ⟨z1, z2⟩ := fz hz
      subst z1 z2
      rw [e2, hz]
      exact ⟨by decide +kernel, rfl, rfl, rfl, rfl⟩
    · left
      refine ⟨?_, hen⟩
      have hd : decP (encW y2) = y2 := by
        rw [hen, e2]
        have := dec_struct (o := y1.kids.length) (d := fw) (p := fk) (by omega) (by omega) (by omega) (by omega)
        rw [← this]
        congr 1
        unfold tagP
        omega
      rw [hd, eqP_self, e2]
      rfl
  have hB : (l.set a (headP a l.length y1)).length = l.length := by simp
  have hA : (l.set a (headP a l.length y1) ++ [tagP y1.kids.length fw fk]).length = l.length + 1 := by simp
  have hset : ((l ++ zs y4).set l.length (tagP y1.kids.length fw fk)).set a (pntW a l.length y5) = (l.set a (headP a l.length y1) ++ [tagP y1.kids.length fw fk]) ++ zs P := by
    rw [e5, pnt_head, ← hh, hy4, zs_add, List.set_append_right _ _ (Nat.le_refl _), Nat.sub_self, set_left h2]
    simp [zs]
  have loop : LoopWp (A98 N [1, 1, 1, 1, 1, 1, 1, 1, 0, 1, 0, 0]) (head98_0 l a y1 ((l.set a (headP a l.length y1) ++ [tagP y1.kids.length fw fk]) ++ zs P) 0) (AExit.inBlock 0 (S98 N [1, 1, 1, 1, 1, 1, 1, 1, 1] (EndsQL cfg Try.f98.ntmps Try.f98.results.toList (res98 ((l, ()), (a : Int), y1, ())) (resX98 ((l, ()), (a : Int), y1, ())) (resL98 ((l, ()), (a : Int), y1, ()))))) := by
    generalize hAA : l.set a (headP a l.length y1) ++ [tagP y1.kids.length fw fk] = A at *
    refine loop_rule (ι := Int) (fun p => head98_0 l a y1 (rowSt A (zs ((y1.kids.length - p.toNat) * (fw + fk))) fw fk y1.kids p.toNat) p) (fun p => 0 ≤ p ∧ p ≤ y1.kids.length) (fun p => ((y1.kids.length : Int) - p).toNat) 0 (by simp [rowSt, rowsP, hP]) ⟨by omega, by omega⟩ ?_
    rintro i ⟨f1, f2⟩
    refine vc98_l0 _ _ _ _ _ _ _ _ ?_
    rintro z1 rfl z2 q2 z3 rfl z4 q4
    rw [hfw, hfk] at q4 ⊢
    rw [← e2] at q4
    subst q4
    (simp only [vcT, vcS])
    simp only [vcF]
    refine ⟨fun hi => ?_, fun hi => ?_⟩
    · have hmem := mem_getD (l := z1.kids) (i := i.toNat) (by omega) Tree.nil
      obtain ⟨r1, r2, r3, r4⟩ := rows _ hmem
      have hf := hfit _ hmem
      have m1 := kid_mass (t := z1) (i := i.toNat) (by omega)
      have hrg := kid_rng hg hmem
      obtain ⟨s1, s2⟩ := row_str (A := A) hfit (i := i.toNat) (by omega)
      have hst := sizeR_take f1 hi
      have hsl := sizeR_take_le z1.kids (i + 1).toNat
      have hrb := rowsP_blk' fw fk (z1.kids.take i.toNat) A.length (A.length + z1.kids.length * (fw + fk) : Nat) (fun t ht => (rows t (List.mem_of_mem_take ht)).2.1)
      rw [← q2] at r2 hf m1 hrg s1 s2 hst
      have hip : i.toNat * (fw + fk) + (fw + fk) ≤ P := by
        rw [← Nat.succ_mul, hP]
        exact Nat.mul_le_mul_right _ (by omega)
      have hipI : i * ((fw : Int) + fk) = (i.toNat * (fw + fk) : Nat) := by rw [Int.natCast_mul, Int.natCast_add, Int.toNat_of_nonneg f1]
      have hLl : (rowSt A (zs ((z1.kids.length - i.toNat) * (fw + fk))) fw fk z1.kids i.toNat).length = A.length + P + sizeR (z1.kids.take i.toNat) := by
        unfold rowSt
        rw [List.length_append, List.length_append, List.length_append, zs_len, rowsP_len _ _ _ (hfit.take _), hrb, List.length_take, Nat.min_eq_left (by omega), hP]
        have : z1.kids.length * (fw + fk) = i.toNat * (fw + fk) + (z1.kids.length - i.toNat) * (fw + fk) := by rw [← Nat.add_mul]; congr 1; omega
        omega
      rw [hA] at s1 s2 hLl
      rw [hipI, show (l.length : Int) + 1 + ((i.toNat * (fw + fk) : Nat) : Int) = ((l.length + 1 + i.toNat * (fw + fk) : Nat) : Int) by omega, s2]
      refine ⟨⟨f1, hi⟩, by ((unfold InR; omega)), by ((unfold InR; omega)), by ((unfold InR; omega)), ⟨⟨⟨by dsimp only; omega, by dsimp only; omega⟩, ?_, ?_⟩, ⟨?_, hrg⟩, r2⟩, ?_, by ((unfold InR; omega)), i + 1, ?_, ⟨by omega, by omega⟩, by omega⟩
      · dsimp only; rw [hLl]; omega
      · dsimp only; rw [Int.toNat_natCast, Int.toNat_natCast]; exact s1
      · show mass z3 ≤ 1000000; omega
      · show 4 * mass z3 + 2 < N; omega
      · rw [show (i + 1).toNat = i.toNat + 1 by omega]
    · have e : i = z1.kids.length := by omega
      subst e
      have eL : rowSt A (zs ((z1.kids.length - (z1.kids.length : Int).toNat) * (fw + fk))) fw fk z1.kids (z1.kids.length : Int).toNat = layP l a z1 := by
        unfold layP
        rw [if_neg (by omega), Int.toNat_natCast, Int.toNat_natCast, hb, ← List.singleton_append, ← List.append_assoc, hAA]
        unfold rowSt
        rw [List.take_length, hA, ← hP, Nat.sub_self]
        simp [zs]
      rw [eL]
      refine ⟨fun _ => by ((unfold InR; omega)), ?_⟩
      have ebool : (bif (eqP (decP (encW z4)) z4 && !decide (z4.kind = 4)) then true else (((z1.kids.length : Int) + ((fw : Int) + fk)) == 0)) = true := by
        rcases hok with h | ⟨h, _, q1, q2, q3⟩
        · rw [h.1]; rfl
        · rw [h, q1, q2, q3]; rfl
      rw [ebool]
      (repeat' (first | exact trivial | exact rfl | apply And.intro))
  have pre1 : pre75 ((l, ()), 1 + (P : Int), ()) := ⟨by dsimp only; omega, by dsimp only; omega, by dsimp only; omega⟩
  have pre2 : ∀ {L : List Int}, L.length = l.length + y4 → pre96 ((L, ()), (a : Int), (l.length : Int), y5, ()) := by
    intro L hL
    refine ⟨⟨by dsimp only; omega, by dsimp only; omega, by dsimp only; omega, by dsimp only; omega⟩, ?_⟩
    rw [e5]
    exact pntOk2 (by omega) (by omega)
  have hl4 : (l ++ zs y4).length = l.length + y4 := by simp
  rw [hPI, Int.toNat_natCast, Int.toNat_natCast]
  rw [Int.toNat_natCast] at e6
  (simp only [vcT, vcS])
  simp only [vcF]
  refine ⟨hm, by ((unfold InR; omega)), by rw [e2]; exact .inl rfl, fun h => ⟨hy3, by ((unfold InR; omega)), pre1, ⟨by omega, by rw [hl4]; omega⟩, Nat.zero_le _, hy3, pre2 (by rw [List.length_set, hl4]), ?_⟩, fun h => ⟨hy3, by ((unfold InR; omega)), pre1, ⟨by omega, by rw [hl4]; omega⟩, Nat.zero_le _, hy3, pre2 (by rw [e6, List.length_set, hl4]), ?_⟩⟩
  · rcases hok with q | ⟨_, q, _⟩
    · rw [Bool.and_eq_true, Bool.not_eq_true', decide_eq_false_iff_not] at q
      exact absurd (h q.1.1) (by simp [q.1.2])
    · rw [show (l ++ zs y4).set l.length (0 : Int) = (l ++ zs y4).set l.length (tagP y1.kids.length fw fk) by rw [← q], hset]
      exact loop
  · rcases hok with ⟨_, q⟩ | ⟨q, _⟩
    · rw [e6, q, hset]
      exact loop
    · rw [Bool.and_eq_false_imp] at q
      have := q h.1
      simp only [Bool.not_eq_false', decide_eq_true_eq] at this
      exact absurd this h.2
theorem c74_ : Contract Try.prog cfg 74 spec74 ∧ Contract Try.prog cfg 99 spec99 ∧ Contract Try.prog cfg 97 spec97 ∧ Contract Try.prog cfg 98 spec98 := make74_ c75 c96 c100 c1101 c119 c120 b74 b99 b97 b98
theorem c74 : Contract Try.prog cfg 74 spec74 := c74_.1
end Go.AM.Ythokdjgpdonhgaa

namespace Go.AM.Ythokdjgpdonhgaa
open Go.AM Go.Proofs
def args35 : ArgL (Tree × Int × Unit) := (.cons (aEl .tree) (.cons (aInt .i64) .nil))
def pre35 (a : Tree × Int × Unit) : Prop := mass a.1 ≤ 1000000 ∧ rng a.1
noncomputable def res35 (a : Tree × Int × Unit) : V U := .tup [(false, [.slice (U := U) .u64 ((encP a.1 a.2.1).1) .unk]), (false, [.bool ((encP a.1 a.2.1).2)])]
noncomputable def spec35 : Fs U := fs args35 (fun a => [pre35 a]) res35
def args34 : ArgL (Unit) := .nil
def pre34 (a : Unit) : Prop := True
noncomputable def res34 (a : Unit) : V U := .c (.bool true)
noncomputable def spec34 : Fs U := fs args34 (fun a => [pre34 a]) res34
noncomputable def know35 : List (FuncId × Fs U) := [(71, spec71), (72, spec72), (73, spec73), (74, spec74), (75, spec1075)]
def lv35 : Lives U := fun i => match i with
  | 0 => ([(1, []), (2, [])], [((.loc 2), [])])
  | 1 => ([(1, []), (2, []), (16, [])], [((.loc 2), [])])
  | 2 => ([(4, []), (5, [])], [])
  | 3 => ([(1, []), (2, [])], [((.loc 2), [])])
  | 4 => ([(1, []), (2, []), (6, [])], [((.loc 2), [])])
  | 5 => ([(2, []), (27, [])], [((.loc 2), [])])
  | 6 => ([(4, []), (5, [])], [])
  | 7 => ([(2, []), (7, [])], [((.loc 2), []), ((.loc 29), [])])
  | 8 => ([(7, []), (8, [])], [((.loc 29), [])])
  | 9 => ([(4, []), (5, [])], [])
  | _ => ([], [])
noncomputable abbrev A35 (p : List Nat) := awp cfg (know know35) (drawOk cfg (know know35)) Try.f35.ntmps lv35 (cd Try.f35 p)
theorem vc35 (t : Tree) (most : Int) (Q : AExit → LSt U → Prop) (h : ∀ y_1, y_1 = (t) → ∀ y_2, y_2 = ((normT y_1)) → ((pre71 (y_1, ())) ∧ (Tr ((!(!(rightT y_1 64))) = true)) ∧ (Tr ((!(!(rightT y_1 64))) = true)) ∧ (((!(rightT y_1 64)) = false → (!(!(rightT y_1 64))) = true)) ∧ (((bif (!(rightT y_1 64)) then true else (((Tree.kind t) : Int) == 10)) = true → (Q .ret (⟨[(4, .c (.nils)), (5, .c (.bool false))], [], []⟩ : LSt U))) ∧ ((bif (!(rightT y_1 64)) then true else (((Tree.kind t) : Int) == 10)) = false → (pre72 (y_1, ())) ∧ ((pre73 (y_2, ())) ∧ ((Tr ((!(decide ((most : Int) ≤ (sizeN (normT y_2) : Int)))) = true)) ∧ (((decide ((most : Int) ≤ (sizeN (normT y_2) : Int))) = false → (!(decide ((most : Int) ≤ (sizeN (normT y_2) : Int)))) = true)) ∧ (((bif (decide ((most : Int) ≤ (sizeN (normT y_2) : Int))) then true else (decide ((131072 : Int) ≤ (sizeN (normT y_2) : Int)))) = true → (Q .ret (⟨[(4, .c (.nils)), (5, .c (.bool false))], [], []⟩ : LSt U))) ∧ ((bif (decide ((most : Int) ≤ (sizeN (normT y_2) : Int))) then true else (decide ((131072 : Int) ≤ (sizeN (normT y_2) : Int)))) = false → ((pre1075 ((([] : List Int), ()), 1, ())) ∧ (pre74 (((([] : List Int) ++ zs (Int.toNat 1)), ()), (([] : List Int).length : Int), y_2, ())) ∧ ((Q .ret (⟨[(4, .c (.slice (U := U) .u64 (layP (([] : List Int) ++ zs (Int.toNat 1)) (([] : List Int).length : Int) y_2) (.own (.e 4 0)))), (5, .c (.bool true))], [], []⟩ : LSt U)))))))))))) :
    A35 [] (⟨[(0, .agg [.int .i64 (Tree.kind t), .slice (U := U) .u64 (Tree.words t) .unk, .slice (U := U) .tree (Tree.kids t) .unk]), (1, .c (.int .i64 most))], [], []⟩ : LSt U) Q :=
  (Eq.mpr (by kernel_rfl) (h _ (reTree_eq _) _ (reTree_eq _)) :)
abbrev Body35 (t : Tree) (most : Int)  : Prop := awp cfg (know (know35)) (drawOk cfg (know (know35))) Try.f35.ntmps lv35 (cd Try.f35 []) (entry (args35.can (t, most, ())) []) (EndsQ cfg Try.f35.ntmps Try.f35.results.toList (res35 (t, most, ())) [])
theorem make35 (c71 : Contract Try.prog cfg 71 spec71) (c72 : Contract Try.prog cfg 72 spec72) (c73 : Contract Try.prog cfg 73 spec73) (c74 : Contract Try.prog cfg 74 spec74) (c1075 : Contract Try.prog cfg 75 spec1075) (hb : ∀ (t : Tree) (most : Int) (_ : Unit), pre35 (t, most, ()) → Body35 t most) : Contract Try.prog cfg 35 spec35 :=
  contract_flat (l := [(71, spec71), (72, spec72), (73, spec73), (74, spec74), (75, spec1075)]) cfgOk rfl (⟨c71, c72, c73, c74, c1075, trivial⟩) lv35 Try.func35 rfl rfl 2 (fun _ => rfl) (by decide) (fun ⟨t, most, _⟩ => hb t most ())
noncomputable def know34 : List (FuncId × Fs U) := [(35, spec35), (37, spec37)]
def lv34 : Lives U := fun i => match i with
  | 0 => ([], [])
  | 1 => ([(1, []), (2, [])], [])
  | 2 => ([(0, [])], [])
  | _ => ([], [])
noncomputable abbrev A34 (p : List Nat) := awp cfg (know know34) (drawOk cfg (know know34)) Try.f34.ntmps lv34 (cd Try.f34 p)
theorem vc34 (Q : AExit → LSt U → Prop) (h : ((pre35 ((Tree.mk 1 ([5]) ([(Tree.mk 8 ([]) ([(Tree.mk 0 ([]) ([]))]))])), 9, ())) ∧ ((Tr (((encP (Tree.mk 1 ([5]) ([(Tree.mk 8 ([]) ([(Tree.mk 0 ([]) ([]))]))])) 9).2) = true)) ∧ (Tr (((encP (Tree.mk 1 ([5]) ([(Tree.mk 8 ([]) ([(Tree.mk 0 ([]) ([]))]))])) 9).2) = true)) ∧ (((encP (Tree.mk 1 ([5]) ([(Tree.mk 8 ([]) ([(Tree.mk 0 ([]) ([]))]))])) 9).2) = true → pre37 (((encP (Tree.mk 1 ([5]) ([(Tree.mk 8 ([]) ([(Tree.mk 0 ([]) ([]))]))])) 9).1), ([281479271677952, 5, 60129542145, 0]), ())) ∧ ((Tr (((encP (Tree.mk 1 ([5]) ([(Tree.mk 8 ([]) ([(Tree.mk 0 ([]) ([]))]))])) 9).2) = true))) ∧ (Q .ret (⟨[(0, .c (.bool (bif ((encP (Tree.mk 1 ([5]) ([(Tree.mk 8 ([]) ([(Tree.mk 0 ([]) ([]))]))])) 9).2) then (decide (((encP (Tree.mk 1 ([5]) ([(Tree.mk 8 ([]) ([(Tree.mk 0 ([]) ([]))]))])) 9).1) = ([281479271677952, 5, 60129542145, 0]))) else false)))], [], []⟩ : LSt U))))) :
    A34 [] (⟨[], [], []⟩ : LSt U) Q :=
  (Eq.mpr (by kernel_rfl) h :)
abbrev Body34  : Prop := awp cfg (know (know34)) (drawOk cfg (know (know34))) Try.f34.ntmps lv34 (cd Try.f34 []) (entry (args34.can (())) []) (EndsQ cfg Try.f34.ntmps Try.f34.results.toList (res34 (())) [])
theorem make34 (c35 : Contract Try.prog cfg 35 spec35) (c37 : Contract Try.prog cfg 37 spec37) (hb : ∀ (_ : Unit), pre34 (()) → Body34 ) : Contract Try.prog cfg 34 spec34 :=
  contract_flat (l := [(35, spec35), (37, spec37)]) cfgOk rfl (⟨c35, c37, trivial⟩) lv34 Try.func34 rfl rfl 0 (fun _ => rfl) (by decide) (fun _ => hb  ())
end Go.AM.Ythokdjgpdonhgaa

namespace Go.AM.Ythokdjgpdonhgaa
open Go.AM Go.Proofs
def args46 : ArgL (Tree × Unit) := (.cons (aEl .tree) .nil)
def pre46 (a : Tree × Unit) : Prop := mass a.1 ≤ 1000000
def mu46 (a : Tree × Unit) : Nat := mass a.1
noncomputable def res46 (a : Tree × Unit) : V U := .c (.int .i64 (weight a.1))
noncomputable def spec46 : Fs U := fs args46 (fun a => [pre46 a]) res46
noncomputable def know46 (N : Nat) : List (FuncId × Fs U) := (46, fs args46 (fun a => [pre46 a, mu46 a < N]) res46) :: []
def lv46 : Lives U := fun i => match i with
  | 0 => ([(1, [])], [((.loc 1), [])])
  | 1 => ([(1, []), (7, [])], [((.loc 1), [])])
  | 2 => ([(2, [])], [])
  | 3 => ([(1, []), (3, [])], [((.loc 1), [])])
  | 4 => ([(1, []), (3, []), (10, [])], [((.loc 1), [])])
  | 5 => ([(1, []), (3, [])], [((.loc 1), [])])
  | 6 => ([(1, []), (3, []), (4, [])], [((.loc 1), [])])
  | 7 => ([(1, []), (3, []), (4, []), (20, [])], [((.loc 1), [])])
  | 8 => ([(1, []), (3, []), (4, [])], [((.loc 1), [])])
  | 9 => ([(1, []), (3, []), (4, [])], [((.loc 1), [])])
  | 10 => ([(1, []), (3, []), (4, []), (38, [])], [((.loc 1), [])])
  | 11 => ([(1, []), (3, []), (4, [])], [((.loc 1), [])])
  | 12 => ([(2, [])], [])
  | _ => ([], [])
noncomputable def head46_0 (t : Tree) (x3 : Int) (x4 : Int) : LSt U := (⟨[(1, .ptr (.loc 1) 0), (3, .c (.int .i64 x3)), (4, .c (.int .i64 x4))], [((.loc 1), [.int .i64 (Tree.kind t), .slice (U := U) .u64 (Tree.words t) .unk, .slice (U := U) .tree (Tree.kids t) .unk])], []⟩ : LSt U)
noncomputable abbrev A46 (N : Nat) (p : List Nat) := awp cfg (know (know46 N)) (drawOk cfg (know (know46 N))) Try.f46.ntmps lv46 (cd Try.f46 p)
noncomputable abbrev S46 (N : Nat) (p : List Nat) := seqK cfg (know (know46 N)) (drawOk cfg (know (know46 N))) Try.f46.ntmps lv46 (cd Try.f46 p)
theorem vc46 (N : Nat) (t : Tree) (Q : AExit → LSt U → Prop) (h : ((((((Tree.kind t) : Int) == 0) = true → (Q .ret (⟨[(2, .c (.int .i64 0))], [], []⟩ : LSt U))) ∧ ((((Tree.kind t) : Int) == 0) = false → ((((((Tree.kind t) : Int) == 1) = true → (InR ((1 : Int) + ((Tree.words t).length : Int))) ∧ ((LoopWp (A46 N [1, 1, 1, 1, 0, 1, 0, 0]) (head46_0 t ((1 : Int) + ((Tree.words t).length : Int)) 0) (AExit.inBlock 0 (S46 N [1, 1, 1, 1, 1] Q))))) ∧ ((((Tree.kind t) : Int) == 1) = false → (LoopWp (A46 N [1, 1, 1, 1, 0, 1, 0, 0]) (head46_0 t 1 0) (AExit.inBlock 0 (S46 N [1, 1, 1, 1, 1] Q)))))))))) :
    A46 N [] (⟨[(0, .agg [.int .i64 (Tree.kind t), .slice (U := U) .u64 (Tree.words t) .unk, .slice (U := U) .tree (Tree.kids t) .unk])], [], []⟩ : LSt U) Q :=
  Eq.mpr (by kernel_rfl) h
theorem vc46_l0 (N : Nat) (t : Tree) (x3 : Int) (x4 : Int) (N0 : LSt U → Prop) (Q : AExit → LSt U → Prop) (h : ∀ y_1, y_1 = (List.getD (Tree.kids t) (Int.toNat x4) Tree.nil) → ∀ y_2, y_2 = (y_1) → (((decide ((x4 : Int) < ((Tree.kids t).length : Int))) = true → ((0 : Int) ≤ x4 ∧ x4 < ((Tree.kids t).length : Int)) ∧ (pre46 (y_2, ())) ∧ (mu46 (y_2, ()) < N) ∧ (InR ((x3 : Int) + (weight y_2))) ∧ ((Tr ((!(((Tree.kind t) : Int) == 1)) = true)) ∧ (Tr ((!(((Tree.kind t) : Int) == 1)) = true)) ∧ (((((Tree.kind t) : Int) == 1) = false → (!(((Tree.kind t) : Int) == 1)) = true)) ∧ (((bif (((Tree.kind t) : Int) == 1) then true else (((Tree.kind t) : Int) == 8)) = true → (InR ((((x3 : Int) + (weight y_2)) : Int) + 1)) ∧ ((InR ((x4 : Int) + 1)) ∧ (N0 (head46_0 t ((((x3 : Int) + (weight y_2)) : Int) + 1) ((x4 : Int) + 1))))) ∧ ((bif (((Tree.kind t) : Int) == 1) then true else (((Tree.kind t) : Int) == 8)) = false → (InR ((x4 : Int) + 1)) ∧ (N0 (head46_0 t ((x3 : Int) + (weight y_2)) ((x4 : Int) + 1))))))) ∧ ((decide ((x4 : Int) < ((Tree.kids t).length : Int))) = false → (Q .ret (⟨[(2, .c (.int .i64 x3))], [], []⟩ : LSt U))))) :
    A46 N [1, 1, 1, 1, 0, 1, 0, 0] (head46_0 t x3 x4) (AExit.then N0 (AExit.inBlock 0 (S46 N [1, 1, 1, 1, 1] Q))) :=
  Eq.mpr (by kernel_rfl) (h _ rfl _ (reTree_eq _))
def Body46 (N : Nat) (t : Tree)  : Prop := awp cfg (know (know46 N)) (drawOk cfg (know (know46 N))) Try.f46.ntmps lv46 (cd Try.f46 []) (entry (args46.can (t, ())) []) (EndsQ cfg Try.f46.ntmps Try.f46.results.toList (res46 (t, ())) [])
theorem make46 (hb : ∀ (N : Nat) (t : Tree) (_ : Unit), pre46 (t, ()) → mu46 (t, ()) < N + 1 → Body46 N t) : Contract Try.prog cfg 46 spec46 :=
  contract_rec (μ := mu46) (l := []) cfgOk rfl (trivial) lv46 Try.func46 rfl rfl 1 (fun _ => rfl) (by decide) (fun N ⟨t, _⟩ => hb N t ())
end Go.AM.Ythokdjgpdonhgaa

namespace Go.AM.Ythokdjgpdonhgaa
open Go.AM Go.Proofs
theorem c46 : Contract Try.prog cfg 46 spec46 := by
  refine make46 ?_
  rintro N ⟨k, ws, ks⟩ _ hp hN
  have hlen := massK_len ks
  have hw := weight_range (.mk k ws ks)
  simp only [pre46, mu46, mass] at hp hN hw
  have key : ∀ (n0 : Int), 0 ≤ n0 → n0 + weightK ks + (if k = 1 ∨ k = 8 then (ks.length : Int) else 0) = weight (.mk k ws ks) →
      LoopWp (A46 N [1, 1, 1, 1, 0, 1, 0, 0]) (head46_0 (.mk k ws ks) n0 0) (AExit.inBlock 0 (S46 N [1, 1, 1, 1, 1] (EndsQ cfg Try.f46.ntmps Try.f46.results.toList (res46 (.mk k ws ks, ())) []))) := by
    intro n0 hn0 hn
    refine loop_rule (ι := Int × Int) (fun p => head46_0 (.mk k ws ks) p.1 p.2) (fun p => 0 ≤ p.2 ∧ p.2 ≤ ks.length ∧ 0 ≤ p.1 ∧ p.1 + weightK (ks.drop p.2.toNat) + (if k = 1 ∨ k = 8 then (ks.length : Int) - p.2 else 0) = weight (.mk k ws ks)) (fun p => ((ks.length : Int) - p.2).toNat) (n0, 0) rfl ⟨by dsimp only; omega, by dsimp only; omega, by dsimp only; omega, by simpa using hn⟩ ?_
    rintro ⟨n, i⟩ ⟨h1, h2, h3, h4⟩
    dsimp only at *
    refine vc46_l0 N _ _ _ _ _ ?_
    (simp only [vcT, vcS])
    (simp only [Tree.eta, Tree.kind_mk, Tree.words_mk, Tree.kids_mk])
    rintro y1 e1 y2 e2
    subst e2
    refine ⟨fun hc => ?_, fun hc => ?_⟩
    · have hm := massK_get (ks := ks) (i := i.toNat) (by omega)
      have hd := weightK_drop h1 hc
      rw [← e1] at hm hd
      have hr := weight_range y2
      have hr2 := weightK_range (ks.drop (i + 1).toNat)
      refine ⟨by omega, by simp only [pre46]; omega, by simp only [mu46]; omega, ?_, fun q => ?_, fun q => ?_⟩
      · unfold InR; split at h4 <;> omega
      · rw [if_pos q] at h4
        exact ⟨by unfold InR; omega, by unfold InR; omega, (_, i + 1), rfl, ⟨by dsimp only; omega, by dsimp only; omega, by dsimp only; omega, by dsimp only; rw [if_pos q]; omega⟩, by dsimp only; omega⟩
      · rw [if_neg (by omega)] at h4
        exact ⟨by unfold InR; omega, (_, i + 1), rfl, ⟨by dsimp only; omega, by dsimp only; omega, by dsimp only; omega, by dsimp only; rw [if_neg (by omega)]; omega⟩, by dsimp only; omega⟩
    · rw [List.drop_eq_nil_of_le (by omega)] at h4
      simp only [weightK] at h4
      refine ends_int rfl ?_
      dsimp only
      split at h4 <;> omega
  refine vc46 N _ _ ?_
  (simp only [vcT, vcS])
  (simp only [Tree.eta, Tree.kind_mk, Tree.words_mk, Tree.kids_mk])
  refine ⟨fun hc => ends_int rfl (by rw [weight, if_pos hc]), fun hc => ⟨fun h1 => ⟨by unfold InR; omega, key _ (by omega) ?_⟩, fun h1 => key _ (by omega) ?_⟩⟩
  · rw [weight, if_neg hc, if_pos h1, if_pos (.inl h1)]; omega
  · rw [weight, if_neg hc, if_neg h1]
    split
    · rw [if_pos (by omega)]; omega
    · rw [if_neg (by omega)]; omega
theorem clamp_le (n t : Int) (h : 0 ≤ t) : 0 ≤ clampI n t ∧ clampI n t ≤ t := by unfold clampI; split <;> (try split) <;> omega
theorem unfV_good {l : List (List Int)} (hl : okSeg l) (x : Limits) (h : (unfV l x).2.2 = 0) :
    rightT (unfV l x).1 64 = true ∧ rng (unfV l x).1 ∧ depthT (unfV l x).1 ≤ (limV x).depth ∧ weight (unfV l x).1 = (unfV l x).2.1 ∧ (unfV l x).2.1 ≤ (limV x).weight ∧ mass (unfV l x).1 ≤ 140000 := by
  have hd := clamp_le x.depth 64 (by omega)
  have hw := clamp_le x.weight 65536 (by omega)
  rw [show clampI x.depth 64 = (limV x).depth from rfl] at hd
  rw [show clampI x.weight 65536 = (limV x).weight from rfl] at hw
  unfold unfV at h ⊢
  by_cases h1 : (refAt l 0 0).2 = 0
  · rw [if_pos h1] at h ⊢
    by_cases h2 : (mean l (limV x).depth.toNat (refAt l 0 0).1 (limV x).weight).2.2 = 0
    · rw [if_pos h2] at h ⊢
      obtain ⟨g1, g2, g3, g4, g5⟩ := mean_good hl (limV x).depth.toNat _ _ (okX_at hl 0 0) hw.1 hw.2 h2
      rw [Int.toNat_of_nonneg hd.1] at g2
      have hm := mass_weight _ _ g2
      refine ⟨rightT_mono _ _ _ hd.1 hd.2 g2, g3, (depthT_le _ _ hd.1 g2).2, g5, by dsimp only; omega, ?_⟩
      dsimp only
      split at hm <;> omega
    · rw [if_neg h2] at h; exact absurd h h2
  · rw [if_neg h1] at h; exact absurd h h1
end Go.AM.Ythokdjgpdonhgaa

namespace Go.AM
def More (r r' : Tree × Int × Int) (k : Int) : Prop := r.2.2 = 0 → r' = (r.1, r.2.1 + k, 0)
def MoreM (m m' : XRef → Int → Tree × Int × Int) (k : Int) : Prop := ∀ x left, More (m x left) (m' x (left + k)) k
theorem loopM_more {f g : Int → Int → Tree × Int × Int} {k : Int} (h : ∀ i left, More (f i left) (g i (left + k)) k) : ∀ (n : Nat) (i left : Int) (acc : List Tree), (loopM f n i left acc).2.2 = 0 →
    loopM g n i (left + k) acc = ((loopM f n i left acc).1, (loopM f n i left acc).2.1 + k, 0)
  | 0, _, _, _, _ => rfl
  | n + 1, i, left, acc, h0 => by
    simp only [loopM] at h0 ⊢
    by_cases he : (f i left).2.2 = 0
    · rw [if_pos he] at h0 ⊢
      have hg := h i left he
      rw [hg]
      simp only
      rw [if_pos trivial]
      exact loopM_more h n (i + 1) (f i left).2.1 (acc ++ [(f i left).1]) h0
    · rw [if_neg he] at h0
      exact absurd h0 he
theorem kidsM_more {l : List (List Int)} {m m' : XRef → Int → Tree × Int × Int} {k : Int} (h : MoreM m m' k) (x : XRef) (left : Int) : More (kidsM l m x left) (kidsM l m' x (left + k)) k := by
  intro h0
  unfold kidsM at h0 ⊢
  have := loopM_more (f := fun j left => if (kidX l x j).2 = 0 then m (kidX l x j).1 left else (Tree.nil, left, (kidX l x j).2)) (g := fun j left => if (kidX l x j).2 = 0 then m' (kidX l x j).1 left else (Tree.nil, left, (kidX l x j).2)) (k := k) (by
    intro i left hi
    by_cases he : (kidX l x i).2 = 0
    · simp only [he, if_true] at hi ⊢
      exact h _ _ hi
    · simp only [he, if_false] at hi) x.ptrs.toNat 0 left [] h0
  rw [this]
theorem kidM_more {l : List (List Int)} {m m' n n' : XRef → Int → Tree × Int × Int} {k : Int} (h : MoreM m m' k) (h' : MoreM n n' k) (x : XRef) (i left : Int) : More (kidM l m n x i left) (kidM l m' n' x i (left + k)) k := by
  intro h0
  unfold kidM at h0 ⊢
  by_cases he : (kidX l x i).2 = 0
  · rw [if_pos he] at h0 ⊢
    rw [if_pos he]
    by_cases h9 : x.kind = 9
    · rw [if_pos h9] at h0 ⊢
      rw [if_pos h9]
      exact kidsM_more h' _ _ h0
    · rw [if_neg h9] at h0 ⊢
      rw [if_neg h9]
      by_cases h1 : x.kind = 1 ∨ x.kind = 8
      · rw [if_pos h1] at h0 ⊢
        rw [if_pos h1]
        exact h _ _ h0
      · rw [if_neg h1, if_neg h1]
  · rw [if_neg he] at h0
    exact absurd h0 he
theorem stepM_more {l : List (List Int)} {d d' : Nat} (hd : d ≤ d') {m m' n n' : XRef → Int → Tree × Int × Int} {k : Int} (hk : 0 ≤ k) (h : MoreM m m' k) (h' : MoreM n n' k) : MoreM (stepM l d m n) (stepM l d' m' n') k := by
  intro x left h0
  unfold stepM at h0 ⊢
  by_cases h1 : x.kind = 0
  · rw [if_pos h1, if_pos h1]
  · rw [if_neg h1] at h0 ⊢
    rw [if_neg h1]
    by_cases h2 : d = 0 ∨ (x.kind = 9 ∧ 0 < x.count ∧ d < 2) ∨ left < ownX x
    · rw [if_pos h2] at h0; cases h0
    · rw [if_neg h2] at h0 ⊢
      rw [if_neg (show ¬(d' = 0 ∨ (x.kind = 9 ∧ 0 < x.count ∧ d' < 2) ∨ left + k < ownX x) by
        rintro (q | q | q)
        · exact h2 (.inl (by omega))
        · exact h2 (.inr (.inl ⟨q.1, q.2.1, by omega⟩))
        · exact h2 (.inr (.inr (by omega))))]
      have := loopM_more (k := k) (fun i left => kidM_more (l := l) h h' x i left) (kidsX x).toNat 0 (left - ownX x) [] h0
      rw [show left + k - ownX x = left - ownX x + k by omega, this]
theorem none_more {m' : XRef → Int → Tree × Int × Int} {k : Int} : MoreM (fun _ left => (Tree.nil, left, 3)) m' k := fun _ _ h => by cases h
theorem mean_more {l : List (List Int)} {k : Int} (hk : 0 ≤ k) : ∀ (d d' : Nat), d ≤ d' → MoreM (mean l d) (mean l d') k := by
  intro d
  induction d using Nat.strongRecOn with
  | ind d ih =>
    intro d' hd
    match d, d', hd with
    | 0, 0, hd => exact stepM_more hd hk none_more none_more
    | 0, 1, hd => exact stepM_more hd hk none_more none_more
    | 0, d' + 2, hd => exact stepM_more hd hk none_more none_more
    | 1, 1, hd => exact stepM_more hd hk (ih 0 (by omega) 0 (by omega)) none_more
    | 1, d' + 2, hd => exact stepM_more hd hk (ih 0 (by omega) (d' + 1) (by omega)) none_more
    | d + 2, d' + 2, hd => exact stepM_more hd hk (ih (d + 1) (by omega) (d' + 1) (by omega)) (ih d (by omega) d' (by omega))
end Go.AM

namespace Go.AM.Ythokdjgpdonhgaa
open Go.AM
def valX (l : List (List Int)) (x : XRef) : Tree := (mean l 64 x 65536).1
def valT (r : Ref) : Tree := valX (segO r.a) (unX r)
def valE (r : Ref) : Prop := (mean (segO r.a) 64 (unX r) 65536).2.2 = 0
theorem val_of {l : List (List Int)} {d : Nat} {x : XRef} {left : Int} (hd : d ≤ 64) (hl : left ≤ 65536) (h : (mean l d x left).2.2 = 0) : (mean l 64 x 65536).2.2 = 0 ∧ (mean l d x left).1 = valX l x := by
  have := mean_more (l := l) (k := 65536 - left) (by omega) d 64 hd x left h
  rw [show left + (65536 - left) = 65536 by omega] at this
  unfold valX
  rw [this]
  exact ⟨rfl, rfl⟩
theorem loopM_get {f : Int → Int → Tree × Int × Int} {Q : Int → Int → Prop} (hf : ∀ i left, Q i left → (f i left).2.2 = 0 → Q (i + 1) (f i left).2.1) :
    ∀ (n : Nat) (i left : Int) (acc : List Tree), Q i left → (loopM f n i left acc).2.2 = 0 →
      ∃ ks, (loopM f n i left acc).1 = acc ++ ks ∧ ks.length = n ∧ ∀ j : Nat, j < n → ∃ le, Q (i + j) le ∧ (f (i + j) le).2.2 = 0 ∧ ks.getD j Tree.nil = (f (i + j) le).1
  | 0, i, left, acc, _, _ => ⟨[], by simp [loopM]⟩
  | n + 1, i, left, acc, h0, he => by
    simp only [loopM] at he ⊢
    by_cases h1 : (f i left).2.2 = 0
    · rw [if_pos h1] at he ⊢
      obtain ⟨ks, q1, q2, q3⟩ := loopM_get hf n (i + 1) (f i left).2.1 (acc ++ [(f i left).1]) (hf i left h0 h1) he
      refine ⟨(f i left).1 :: ks, by rw [q1]; simp, by simp [q2], ?_⟩
      rintro (_ | j) hj
      · exact ⟨left, by simpa using h0, by simpa using h1, by simp⟩
      · obtain ⟨le, a1, a2, a3⟩ := q3 j (by omega)
        rw [show i + 1 + (j : Int) = i + ((j + 1 : Nat) : Int) by omega] at a1 a2 a3
        exact ⟨le, a1, a2, by rw [List.getD_cons_succ]; exact a3⟩
    · rw [if_neg h1] at he
      exact absurd he h1
theorem valX_zero {l : List (List Int)} {x : XRef} (h : x.kind = 0) : valX l x = ⟨0, wordsX l x, []⟩ ∧ (mean l 64 x 65536).2.2 = 0 := by
  unfold valX
  rw [mean_eq (by omega)]
  unfold stepM
  rw [if_pos h]
  exact ⟨rfl, rfl⟩
theorem val_kids {l : List (List Int)} (hl : okSeg l) {x : XRef} (hx : OkX l x) (h : (mean l 64 x 65536).2.2 = 0) :
    ∃ ks, valX l x = ⟨x.kind, wordsX l x, ks⟩ ∧ (ks.length : Int) = kidsX x ∧ ∀ i : Int, 0 ≤ i → i < kidsX x → (kidX l x i).2 = 0 ∧ (mean l 64 (kidX l x i).1 65536).2.2 = 0 ∧ ks.getD i.toNat Tree.nil = valX l (kidX l x i).1 := by
  have hkx := kidsX_le hx
  by_cases h0 : x.kind = 0
  · refine ⟨[], by rw [(valX_zero h0).1, h0], ?_, ?_⟩
    · have := hx.null h0
      rw [this]; rfl
    · intro i h1 h2
      rw [hx.null h0] at h2
      exact absurd h2 (by show ¬ i < 0; omega)
  have hdt := hx.data
  have hpt := hx.ptrs
  have hcc := hx.count
  have hown := ownX_pos hx
  unfold valX
  rw [mean_eq (by omega)] at h ⊢
  unfold stepM at h ⊢
  rw [if_neg h0] at h ⊢
  by_cases hq : (64 : Nat) = 0 ∨ (x.kind = 9 ∧ 0 < x.count ∧ 64 < 2) ∨ (65536 : Int) < ownX x
  · rw [if_pos hq] at h; cases h
  · rw [if_neg hq] at h ⊢
    obtain ⟨ks, q1, q2, q3⟩ := loopM_get (Q := fun _ left => 0 ≤ left ∧ left ≤ 65536 - ownX x) (f := kidM l (mean l 63) (mean l 62) x) (fun i left hQ he => by
      have hf := kidM_fine hl (mean_fine hl 63) (mean_fine hl 62) hx i left hQ.1
      exact ⟨hf.1, Int.le_trans hf.2 hQ.2⟩) (kidsX x).toNat 0 (65536 - ownX x) [] ⟨by omega, Int.le_refl _⟩ h
    refine ⟨ks, by dsimp only; rw [q1, List.nil_append], by rw [q2, Int.toNat_of_nonneg hkx.1], ?_⟩
    intro i hi hn
    obtain ⟨le, a1, a2, a3⟩ := q3 i.toNat (by omega)
    rw [show (0 : Int) + (i.toNat : Int) = i by omega] at a2 a3
    rw [a3]
    unfold kidM at a2 ⊢
    by_cases hk2 : (kidX l x i).2 = 0
    · rw [if_pos hk2] at a2 ⊢
      refine ⟨hk2, ?_⟩
      by_cases h9 : x.kind = 9
      · rw [if_pos h9] at a2 ⊢
        have hkx' := okX_kid hl hx i
        have e1 : (kidX l x i).1.kind = 1 ∧ (kidX l x i).1.data = x.data ∧ (kidX l x i).1.ptrs = x.ptrs := by
          have e : kidsX x = x.count := by unfold kidsX; rw [if_neg (by omega)]
          unfold kidX
          rw [if_neg (by omega), if_neg (by omega), if_neg (by omega), if_pos h9]
          exact ⟨rfl, rfl, rfl⟩
        generalize (kidX l x i).1 = z at a2 e1 hkx' ⊢
        have hoz : ownX z = 1 + x.data + x.ptrs := by unfold ownX; rw [if_pos e1.1, e1.2.1, e1.2.2]
        have hox : 1 + x.data + x.ptrs < ownX x := by
          have e : kidsX x = x.count := by unfold kidsX; rw [if_neg (by omega)]
          unfold ownX
          rw [if_neg (by omega), if_pos h9]
          have : 1 * (1 + x.data + x.ptrs) ≤ x.count * (1 + x.data + x.ptrs) := Int.mul_le_mul_of_nonneg_right (by omega) (by omega)
          omega
        have key : mean l 63 z (le + ownX z) = kidsM l (mean l 62) z le := by
          rw [mean_eq (by omega)]
          unfold stepM kidsM
          rw [if_neg (show ¬ z.kind = 0 by omega), if_neg (show ¬((63 : Nat) = 0 ∨ (z.kind = 9 ∧ 0 < z.count ∧ (63 : Nat) < 2) ∨ le + ownX z < ownX z) by omega), show le + ownX z - ownX z = le by omega, show kidsX z = z.ptrs by unfold kidsX; rw [if_pos e1.1]]
          have ef : kidM l (mean l 62) (mean l 61) z = fun j left => if (kidX l z j).2 = 0 then mean l 62 (kidX l z j).1 left else (Tree.nil, left, (kidX l z j).2) := by
            funext j left
            unfold kidM
            rw [if_neg (show ¬ z.kind = 9 by omega), if_pos (show z.kind = 1 ∨ z.kind = 8 from .inl e1.1)]
          rw [e1.1, show (63 : Nat) - 1 = 62 from rfl, show (63 : Nat) - 2 = 61 from rfl, ef]
        rw [← key] at a2 ⊢
        exact val_of (by omega) (by omega) a2
      · rw [if_neg h9] at a2 ⊢
        by_cases h18 : x.kind = 1 ∨ x.kind = 8
        · rw [if_pos h18] at a2 ⊢
          exact val_of (by omega) (by omega) a2
        · rw [if_neg h18]
          have e : kidsX x = x.count := by unfold kidsX; rw [if_neg (by omega)]
          have ek : (kidX l x i).1.kind = 10 := by
            unfold kidX
            rw [if_neg (by omega), if_neg (by omega), if_neg (by omega), if_neg (by omega)]
          have hz := okX_kid hl hx i
          generalize (kidX l x i).1 = z at ek hz ⊢
          have h10 := hz.zero (.inr ek)
          have hkz : kidsX z = 0 := by unfold kidsX; rw [if_neg (by omega)]; exact h10
          have ho : ownX z = 1 := by unfold ownX; rw [if_neg (by omega), if_neg (by omega), h10]; rfl
          rw [mean_eq (by omega)]
          unfold stepM
          rw [if_neg (show ¬ z.kind = 0 by omega), if_neg (show ¬((64 : Nat) = 0 ∨ (z.kind = 9 ∧ 0 < z.count ∧ (64 : Nat) < 2) ∨ (65536 : Int) < ownX z) by omega), hkz]
          exact ⟨rfl, rfl⟩
    · rw [if_neg hk2] at a2
      exact absurd a2 hk2
theorem val_lift {a : Option Arena} {x : XRef} (hx : OkX (segO a) x) : valT (liftX a x) = valX (segO a) x ∧ ((mean (segO a) 64 x 65536).2.2 = 0 → valE (liftX a x)) := by
  unfold valT valE
  rw [unX_lift hx]
  by_cases h0 : x.kind = 0
  · have e := hx.null h0
    subst e
    exact ⟨rfl, fun _ => (valX_zero rfl).2⟩
  · rw [a_lift h0]
    exact ⟨rfl, id⟩
theorem val_good {r : Ref} (h : okR r) (he : valE r) : rightT (valT r) 64 = true ∧ rng (valT r) ∧ mass (valT r) ≤ 140000 := by
  obtain ⟨g1, g2, g3, g4, g5⟩ := mean_good h.1 64 (unX r) 65536 h.2 (by omega) (by omega) he
  have hm := mass_weight _ _ g2
  refine ⟨g2, g3, ?_⟩
  show mass (mean (segO r.a) 64 (unX r) 65536).1 ≤ 140000
  split at hm <;> omega
theorem unf_root {l : List (List Int)} {x : Limits} (h : (unfV l x).2.2 = 0) : (refAt l 0 0).2 = 0 ∧ (mean l 64 (refAt l 0 0).1 65536).2.2 = 0 ∧ (unfV l x).1 = valX l (refAt l 0 0).1 := by
  have hd := clamp_le x.depth 64 (by omega)
  have hw := clamp_le x.weight 65536 (by omega)
  rw [show clampI x.depth 64 = (limV x).depth from rfl] at hd
  rw [show clampI x.weight 65536 = (limV x).weight from rfl] at hw
  unfold unfV at h ⊢
  by_cases h1 : (refAt l 0 0).2 = 0
  · rw [if_pos h1] at h ⊢
    by_cases h2 : (mean l (limV x).depth.toNat (refAt l 0 0).1 (limV x).weight).2.2 = 0
    · rw [if_pos h2] at h ⊢
      have := val_of (by omega) hw.2 h2
      exact ⟨h1, this⟩
    · rw [if_neg h2] at h; exact absurd h h2
  · rw [if_neg h1] at h; exact absurd h h1
theorem unf_nil {l : List (List Int)} {x : Limits} (h : (unfV l x).2.2 ≠ 0) : (unfV l x).1 = Tree.nil := by
  unfold unfV at h ⊢
  by_cases h1 : (refAt l 0 0).2 = 0
  · rw [if_pos h1] at h ⊢
    by_cases h2 : (mean l (limV x).depth.toNat (refAt l 0 0).1 (limV x).weight).2.2 = 0
    · rw [if_pos h2] at h; exact absurd rfl h
    · rw [if_neg h2]
  · rw [if_neg h1]
end Go.AM.Ythokdjgpdonhgaa

namespace Go.AM.Ythokdjgpdonhgaa
open Go.AM Go.Proofs
def Has (A : List Int) (to : Int) (b : List Int) : Prop := ∃ p s, A = p ++ (b ++ s) ∧ (p.length : Int) = to
theorem Has.left {A b c : List Int} {to : Int} (h : Has A to (b ++ c)) : Has A to b := by
  obtain ⟨p, s, rfl, h⟩ := h
  exact ⟨p, c ++ s, by simp, h⟩
theorem Has.right {A b c : List Int} {to : Int} (h : Has A to (b ++ c)) : Has A (to + b.length) c := by
  obtain ⟨p, s, rfl, h⟩ := h
  exact ⟨p ++ b, s, by simp, by rw [List.length_append]; omega⟩
theorem Has.len {A b : List Int} {to : Int} (h : Has A to b) : 0 ≤ to ∧ to + b.length ≤ A.length := by
  obtain ⟨p, s, rfl, h⟩ := h
  simp only [List.length_append]
  omega
theorem Has.get {A b : List Int} {to : Int} (h : Has A to b) {i : Nat} (hi : i < b.length) : A.getD (to + i).toNat 0 = b.getD i 0 := by
  obtain ⟨p, s, rfl, h⟩ := h
  rw [show (to + (i : Int)).toNat = p.length + i by omega, List.getD_eq_getElem?_getD, List.getD_eq_getElem?_getD, List.getElem?_append_right (by omega), show p.length + i - p.length = i by omega, List.getElem?_append_left hi]
theorem Has.take {A b : List Int} {to : Int} (h : Has A to b) : (A.drop to.toNat).take b.length = b := by
  obtain ⟨p, s, rfl, h⟩ := h
  rw [show to.toNat = p.length by omega, List.drop_left, List.take_left]
theorem Has.drop {A b : List Int} {to : Int} (h : Has A to b) : ∃ s, A.drop to.toNat = b ++ s := by
  obtain ⟨p, s, rfl, h⟩ := h
  exact ⟨s, by rw [show to.toNat = p.length by omega, List.drop_left]⟩
theorem hasN_one {A : List Int} {a n : Int} : hasN [A] 0 a n = true ↔ 0 ≤ a ∧ 0 ≤ n ∧ a + n ≤ A.length := by
  rw [hasN_iff]
  simp [segAt]
theorem getS_one (A : List Int) (a : Int) : getS [A] 0 a = A.getD a.toNat 0 := by simp [getS, segAt]
theorem segAt_one (A : List Int) : segAt [A] 0 = A := by simp [segAt]
theorem kids_has {A : List Int} : ∀ (ks : List Tree) (a to : Int), Has A a (kidsP ks a to).1 → Has A to (kidsP ks a to).2 →
    ∀ i : Nat, i < ks.length → ∃ b, A.getD (a + i).toNat 0 = headP (a + i) b (ks.getD i Tree.nil) ∧ Has A b (blkP (ks.getD i Tree.nil) b)
  | [], _, _, _, _, i, hi => by cases hi
  | t :: r, a, to, h1, h2, i, hi => by
    rw [kidsP] at h1 h2
    cases i with
    | zero => exact ⟨to, by have := h1.get (i := 0) (by simp); simpa using this, by simpa using h2.left⟩
    | succ i =>
      have h3 : Has A (a + 1) (kidsP r (a + 1) (to + (blkP t to).length)).1 := Has.right (b := [headP a to t]) h1
      obtain ⟨b, q1, q2⟩ := kids_has r (a + 1) _ h3 h2.right i (by simpa using hi)
      refine ⟨b, ?_, by simpa using q2⟩
      rw [show a + ((i + 1 : Nat) : Int) = a + 1 + i by omega]
      simpa using q1
theorem rows_has {A : List Int} {fw fk : Nat} : ∀ (ks : List Tree) (a to : Int), (∀ t ∈ ks, t.words.length ≤ fw ∧ t.kids.length ≤ fk) → Has A a (rowsP fw fk ks a to).1 → Has A to (rowsP fw fk ks a to).2 →
    ∀ i : Nat, i < ks.length → ∃ b, Has A (a + (i * (fw + fk) : Nat)) ((ks.getD i Tree.nil).words ++ (zs (fw - (ks.getD i Tree.nil).words.length) ++ ((kidsP (ks.getD i Tree.nil).kids (a + (i * (fw + fk) : Nat) + fw) b).1 ++ zs (fk - (ks.getD i Tree.nil).kids.length)))) ∧
      Has A b (kidsP (ks.getD i Tree.nil).kids (a + (i * (fw + fk) : Nat) + fw) b).2
  | [], _, _, _, _, _, i, hi => by cases hi
  | .mk k w l :: r, a, to, hf, h1, h2, i, hi => by
    have hw : w.length ≤ fw ∧ l.length ≤ fk := hf _ List.mem_cons_self
    rw [rowsP] at h1 h2
    cases i with
    | zero =>
      refine ⟨to, ?_, by simpa using h2.left⟩
      have : Has A a ((w ++ (zs (fw - w.length) ++ ((kidsP l (a + fw) to).1 ++ zs (fk - l.length)))) ++ (rowsP fw fk r (a + (fw + fk)) (to + (kidsP l (a + fw) to).2.length)).1) := by
        simpa only [List.append_assoc, zs] using h1
      simpa using this.left
    | succ i =>
      have h3 : Has A (a + ((fw : Int) + fk)) (rowsP fw fk r (a + (fw + fk)) (to + (kidsP l (a + fw) to).2.length)).1 := by
        have : Has A a ((w ++ (zs (fw - w.length) ++ ((kidsP l (a + fw) to).1 ++ zs (fk - l.length)))) ++ (rowsP fw fk r (a + (fw + fk)) (to + (kidsP l (a + fw) to).2.length)).1) := by
          simpa only [List.append_assoc, zs] using h1
        have := this.right
        rwa [show a + (((w ++ (zs (fw - w.length) ++ ((kidsP l (a + fw) to).1 ++ zs (fk - l.length)))).length : Nat) : Int) = a + ((fw : Int) + fk) by
          simp only [List.length_append, zs_len, kidsP_len]; omega] at this
      obtain ⟨b, q1, q2⟩ := rows_has r _ _ (fun t ht => hf t (List.mem_cons_of_mem _ ht)) h3 h2.right i (by simpa using hi)
      have e : a + (((i + 1) * (fw + fk) : Nat) : Int) = a + ((fw : Int) + fk) + ((i * (fw + fk) : Nat) : Int) := by rw [Nat.add_mul]; omega
      refine ⟨b, ?_, ?_⟩
      · rw [e]; simpa using q1
      · rw [e]; simpa using q2
mutual
def framT : Tree → Tree
  | .mk k w ks => .mk k w (if k = 9 then framR (frW ks) (frK ks) ks else framK ks)
def framK : List Tree → List Tree
  | [] => []
  | t :: r => framT t :: framK r
def framR (fw fk : Nat) : List Tree → List Tree
  | [] => []
  | .mk k w ks :: r => .mk k (w ++ zs (fw - w.length)) ((if k = 9 then framR (frW ks) (frK ks) ks else framK ks) ++ List.replicate (fk - ks.length) Tree.nil) :: framR fw fk r
end
def xOf (a to : Int) : Tree → XRef
  | .mk k w ks =>
    if k = 0 then xz
    else if k = 1 then ⟨1, 0, if w.length + ks.length = 0 then a else to, w.length, ks.length, 0, 0⟩
    else if k = 9 then ⟨9, 0, to + 1, frW ks, frK ks, ks.length, 0⟩
    else ⟨k, 0, to, 0, 0, ks.length, 0⟩
theorem follow_one {A : List Int} {a : Int} (h : 0 ≤ a ∧ a < A.length) (hk : (decP (A.getD a.toNat 0)).kind = 1 ∨ (decP (A.getD a.toNat 0)).kind = 2) :
    follow [A] 0 a = insideL [A] ⟨decP (A.getD a.toNat 0), 0, a + 1 + (decP (A.getD a.toNat 0)).off⟩ := by
  unfold follow
  rw [if_pos (hasN_one.2 ⟨h.1, by omega, by omega⟩), getS_one, if_neg (by omega), if_pos (by omega)]
  have hs : shapeE (decP (A.getD a.toNat 0)) = 0 := by unfold shapeE; rw [if_neg (by omega), if_pos hk]
  unfold nearL
  rw [if_pos hs]
theorem wordsP_code {c n : Int} (hc : 0 ≤ c ∧ c ≤ 6) (hn : 0 ≤ n ∧ n < 536870912) (o : Int) : wordsP ⟨2, o, 0, 0, c, n, 0, false⟩ = (n * bitsP c + 63) / 64 := by
  unfold wordsP
  dsimp only
  rw [if_neg (by decide), if_pos rfl, if_neg (by omega), if_neg (by omega)]
theorem bits_wd {c : Int} (hc : 0 ≤ c ∧ c ≤ 5) : bitsP c = wd c := by
  have : c = 0 ∨ c = 1 ∨ c = 2 ∨ c = 3 ∨ c = 4 ∨ c = 5 := by omega
  rcases this with rfl | rfl | rfl | rfl | rfl | rfl <;> rfl
theorem room_bits {c : Int} {n : Nat} (hc : 0 ≤ c ∧ c ≤ 5) (hn : n < 536870912) : ((n : Int) * bitsP c + 63) / 64 = (roomW c n).toNat := by
  rw [bits_wd hc]
  unfold roomW
  have : c = 0 ∨ c = 1 ∨ c = 2 ∨ c = 3 ∨ c = 4 ∨ c = 5 := by omega
  rcases this with rfl | rfl | rfl | rfl | rfl | rfl
  · rw [show wd 0 = 0 from rfl, if_pos (by omega)]; omega
  all_goals (first | rw [show wd 1 = 1 from rfl] | rw [show wd 2 = 8 from rfl] | rw [show wd 3 = 16 from rfl] | rw [show wd 4 = 32 from rfl] | rw [show wd 5 = 64 from rfl])
  all_goals (rw [if_neg (by omega)]; omega)
theorem refAt_lay {A : List Int} {t : Tree} {d a to : Int} (hA : A.length ≤ 100000000) (ha : 0 ≤ a ∧ a < A.length) (hr : rightT t d = true) (h10 : t.kind ≠ 10) (hh : A.getD a.toNat 0 = headP a to t) (hb : Has A to (blkP t to)) :
    refAt [A] 0 a = (xOf a to t, 0) := by
  obtain ⟨k, w, ks⟩ := t
  have h10 : k ≠ 10 := h10
  have rt := riT hr
  have hlen := hb.len
  have hk := rt.kind
  unfold headP at hh
  unfold xOf
  dsimp only at hh ⊢
  by_cases h0 : k = 0
  · rw [if_pos h0] at hh ⊢
    have hf : follow [A] 0 a = (locZ, 0) := by
      unfold follow
      rw [if_pos (hasN_one.2 ⟨ha.1, by omega, by omega⟩), getS_one, hh]
      rfl
    unfold refAt
    rw [hf]
    rfl
  rw [if_neg h0] at hh ⊢
  by_cases h1 : k = 1
  · rw [if_pos h1] at hh ⊢
    have hs := rt.stru h1
    have hbl : w.length + ks.length ≤ (blkP (.mk k w ks) to).length := by
      rw [blkP, if_neg h0, if_pos h1, List.length_append, List.length_append, kidsP_len]
      omega
    have hd : decP (A.getD a.toNat 0) = ⟨1, (if w.length + ks.length = 0 then a else to) - a - 1, w.length, ks.length, 0, 0, 0, false⟩ := by
      rw [hh]
      exact dec_struct (by split <;> omega) (by omega) (by omega) (by split <;> omega)
    have hf := follow_one ha (by rw [hd]; exact .inl rfl)
    rw [hd] at hf
    have hi : insideL [A] ⟨⟨1, (if w.length + ks.length = 0 then a else to) - a - 1, w.length, ks.length, 0, 0, 0, false⟩, 0, a + 1 + ((if w.length + ks.length = 0 then a else to) - a - 1)⟩ = (⟨⟨1, 0, w.length, ks.length, 0, 0, 0, false⟩, 0, if w.length + ks.length = 0 then a else to⟩, 0) := by
      unfold insideL
      have e : a + 1 + ((if w.length + ks.length = 0 then a else to) - a - 1) = if w.length + ks.length = 0 then a else to := by split <;> omega
      dsimp only
      rw [e, if_pos]
      · rfl
      · refine hasN_one.2 ⟨by split <;> omega, ?_, ?_⟩
        · show (0 : Int) ≤ (w.length : Int) + ks.length; omega
        · show (if w.length + ks.length = 0 then a else to) + ((w.length : Int) + ks.length) ≤ A.length
          split <;> omega
    dsimp only at hf
    rw [hi] at hf
    unfold refAt
    rw [hf]
    rfl
  rw [if_neg h1] at hh ⊢
  by_cases h8 : k = 8
  · rw [if_pos h8] at hh
    rw [if_neg (by omega)]
    have hl := rt.len
    have hbl : ks.length ≤ (blkP (.mk k w ks) to).length := by
      rw [blkP, if_neg h0, if_neg h1, if_pos h8, List.length_append, kidsP_len]
      omega
    have hd : decP (A.getD a.toNat 0) = ⟨2, to - a - 1, 0, 0, 6, ks.length, 0, false⟩ := by
      rw [hh]
      exact dec_list (by omega) (by omega) (by omega)
    have hf := follow_one ha (by rw [hd]; exact .inr rfl)
    rw [hd] at hf
    have hi : insideL [A] ⟨⟨2, to - a - 1, 0, 0, 6, ks.length, 0, false⟩, 0, a + 1 + (to - a - 1)⟩ = (⟨⟨2, 0, 0, 0, 6, ks.length, 0, false⟩, 0, to⟩, 0) := by
      unfold insideL
      dsimp only
      rw [show a + 1 + (to - a - 1) = to by omega, wordsP_code (by omega) (by omega), if_pos]
      · rfl
      · refine hasN_one.2 ⟨hlen.1, by rw [show bitsP 6 = 64 from rfl]; omega, by rw [show bitsP 6 = 64 from rfl]; omega⟩
    dsimp only at hf
    rw [hi] at hf
    unfold refAt
    rw [hf, h8]
    rfl
  rw [if_neg h8] at hh
  by_cases h9 : k = 9
  · rw [if_pos h9] at hh ⊢
    have hl := rt.len
    have hbl : (blkP (.mk k w ks) to) = tagP ks.length (frW ks) (frK ks) :: ((rowsP (frW ks) (frK ks) ks (to + 1) (to + 1 + (ks.length * (frW ks + frK ks) : Nat))).1 ++ (rowsP (frW ks) (frK ks) ks (to + 1) (to + 1 + (ks.length * (frW ks + frK ks) : Nat))).2) := by
      rw [blkP, if_neg h0, if_neg h1, if_neg h8, if_pos h9]
    have hfw : frW ks < 65536 ∧ frK ks < 65536 := by
      have : ∀ l : List Tree, (∀ t ∈ l, t.words.length < 65536 ∧ t.kids.length < 65536) → frW l < 65536 ∧ frK l < 65536 := by
        intro l
        induction l with
        | nil => intro _; exact ⟨by simp [frW], by simp [frK]⟩
        | cons t l ih =>
          intro h
          have h1 := h t List.mem_cons_self
          have h2 := ih fun t ht => h t (List.mem_cons_of_mem _ ht)
          rw [frW, frK]
          omega
      refine this ks fun t ht => ?_
      have hk1 := (rt.kids t ht).2.2.2 h9
      have := (rt.kids t ht).1
      obtain ⟨k', w', l'⟩ := t
      exact (riT this).stru hk1
    rw [hbl] at hb hlen
    simp only [List.length_cons, List.length_append, rowsP_len ks _ _ fun t ht => frW_le ht] at hlen
    have htag : A.getD to.toNat 0 = tagP ks.length (frW ks) (frK ks) := by have := hb.get (i := 0) (by simp); simpa using this
    generalize hN : ks.length * (frW ks + frK ks) = N at *
    have hd : decP (A.getD a.toNat 0) = ⟨2, to - a - 1, 0, 0, 7, N, 0, false⟩ := by
      rw [hh]
      exact dec_list (by omega) (by omega) (by omega)
    have hf := follow_one ha (by rw [hd]; exact .inr rfl)
    rw [hd] at hf
    have hi : insideL [A] ⟨⟨2, to - a - 1, 0, 0, 7, N, 0, false⟩, 0, a + 1 + (to - a - 1)⟩ = (⟨⟨2, 0, 0, 0, 7, N, 0, false⟩, 0, to⟩, 0) := by
      unfold insideL
      dsimp only
      rw [show a + 1 + (to - a - 1) = to by omega, if_pos]
      · rfl
      · refine hasN_one.2 ⟨hlen.1, ?_, ?_⟩
        · show (0 : Int) ≤ (N : Int) + 1; omega
        · show to + ((N : Int) + 1) ≤ A.length; omega
    dsimp only at hf
    rw [hi] at hf
    have hc : compX [A] 0 to N = (⟨9, 0, to + 1, frW ks, frK ks, ks.length, 0⟩, 0) := by
      by_cases hz : ks.length = 0
      · have e : ks = [] := List.length_eq_zero_iff.1 hz
        subst e
        have ht0 : getS [A] 0 to = 0 := by rw [getS_one, htag]; rfl
        have hn0 : N = 0 := by rw [← hN]; rfl
        unfold compX
        rw [ht0, hn0]
        rfl
      · have ht : decP (getS [A] 0 to) = ⟨1, ks.length, frW ks, frK ks, 0, 0, 0, false⟩ := by
          rw [getS_one, htag]
          have := dec_struct (o := ks.length) (d := frW ks) (p := frK ks) (by omega) (by omega) (by omega) (by omega)
          rw [← this]
          congr 1
          unfold tagP
          omega
        unfold compX
        rw [ht, if_neg]
        dsimp only
        rintro (h | h | h)
        · exact h.2 rfl
        · omega
        · rw [← Int.natCast_add, ← Int.natCast_mul, hN] at h
          omega
    unfold refAt
    rw [hf]
    dsimp only
    rw [if_neg (by decide), if_neg (by decide), if_neg (by decide)]
    exact hc
  · rw [if_neg h9] at hh ⊢
    have hl := rt.len
    have hbl : (blkP (.mk k w ks) to).length = (roomW (k - 2) ks.length).toNat := by
      rw [blkP, if_neg h0, if_neg h1, if_neg h8, if_neg h9]
      unfold putR
      rw [if_pos (rt.data (by omega) (by omega)).1, putW_len, numsP, List.length_map]
    have hd : decP (A.getD a.toNat 0) = ⟨2, to - a - 1, 0, 0, k - 2, ks.length, 0, false⟩ := by
      rw [hh]
      exact dec_list (by omega) (by omega) (by omega)
    have hf := follow_one ha (by rw [hd]; exact .inr rfl)
    rw [hd] at hf
    have hi : insideL [A] ⟨⟨2, to - a - 1, 0, 0, k - 2, ks.length, 0, false⟩, 0, a + 1 + (to - a - 1)⟩ = (⟨⟨2, 0, 0, 0, k - 2, ks.length, 0, false⟩, 0, to⟩, 0) := by
      unfold insideL
      dsimp only
      rw [show a + 1 + (to - a - 1) = to by omega, wordsP_code (by omega) (by omega), room_bits (by omega) (by omega), if_pos]
      · rfl
      · exact hasN_one.2 ⟨hlen.1, by omega, by omega⟩
    dsimp only at hf
    rw [hi] at hf
    unfold refAt
    rw [hf]
    dsimp only
    rw [if_neg (by decide), if_neg (by decide), if_pos (by omega), show 2 + (k - 2) = k by omega]
end Go.AM.Ythokdjgpdonhgaa
