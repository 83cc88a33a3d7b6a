import Derived.Test.YtcljdbpmjdgooaaEQD9
import Derived.Test.YtcljdbpmjdgooaaEmY
import Derived.Test.YtcljdbpmjdgooaaEG1
set_option linter.unusedSimpArgs false
set_option linter.unusedVariables false
namespace Go.AM.Ytcljdbpmjdgooaa
open Go.AM Go.Proofs
def args31 : ArgM ((List Int × Unit) × Int × Tree × Unit) := (.obj 0 (.cons (cWr .u64 0 0) .nil) (.cons (aInt .i64) (.cons (aEl .tree) .nil)))
def pre31 (a : (List Int × Unit) × Int × Tree × Unit) : Prop := (0 ≤ a.2.1 ∧ a.2.1 < a.1.1.length ∧ a.1.1.length + sizeN a.2.2.1 ≤ 1000000) ∧ (mass a.2.2.1 ≤ 1000000 ∧ rng a.2.2.1) ∧ Tree.kind a.2.2.1 ≠ 10 ∧ ∃ d, rightT a.2.2.1 d = true
def mu31 (a : (List Int × Unit) × Int × Tree × Unit) : Nat := 4 * mass a.2.2.1 + 3
noncomputable def res31 (a : (List Int × Unit) × Int × Tree × Unit) : V U := .c (.bool true)
noncomputable def resX31 (a : (List Int × Unit) × Int × Tree × Unit) : List (List (C U)) := [[.mref (.x 0 0)]]
noncomputable def resL31 (a : (List Int × Unit) × Int × Tree × Unit) : List (Tok × LC U) := [(.x 0 0, LC.mk (U := U) .u64 (layP a.1.1 a.2.1 a.2.2.1) 0)]
noncomputable def spec31 : Fs U := fsXL args31 (fun a => [pre31 a]) res31 resX31 resL31
def args58 : ArgM ((List Int × Unit) × Int × Tree × Unit) := (.obj 0 (.cons (cWr .u64 0 0) .nil) (.cons (aInt .i64) (.cons (aEl .tree) .nil)))
def pre58 (a : (List Int × Unit) × Int × Tree × Unit) : Prop := (0 ≤ a.2.1 ∧ a.1.1.length + sizeK (Tree.kids a.2.2.1) ≤ 1000000 ∧ zsAt a.1.1 (Int.toNat a.2.1) (Tree.kids a.2.2.1).length) ∧ (mass a.2.2.1 ≤ 1000000 ∧ rng a.2.2.1) ∧ ∀ k ∈ Tree.kids a.2.2.1, Tree.kind k ≠ 10 ∧ ∃ d, rightT k d = true
def mu58 (a : (List Int × Unit) × Int × Tree × Unit) : Nat := 4 * mass a.2.2.1 + 1
noncomputable def res58 (a : (List Int × Unit) × Int × Tree × Unit) : V U := .c (.bool true)
noncomputable def resX58 (a : (List Int × Unit) × Int × Tree × Unit) : List (List (C U)) := [[.mref (.x 0 0)]]
noncomputable def resL58 (a : (List Int × Unit) × Int × Tree × Unit) : List (Tok × LC U) := [(.x 0 0, LC.mk (U := U) .u64 (kidzR a.1.1 a.2.1 a.2.2.1) 0)]
noncomputable def spec58 : Fs U := fsXL args58 (fun a => [pre58 a]) res58 resX58 resL58
def args56 : ArgM ((List Int × Unit) × Int × Int × Tree × Unit) := (.obj 0 (.cons (cWr .u64 0 0) .nil) (.cons (aInt .i64) (.cons (aInt .i64) (.cons (aEl .tree) .nil))))
def pre56 (a : (List Int × Unit) × Int × Int × Tree × Unit) : Prop := ((0 ≤ a.2.1 ∧ (Tree.words a.2.2.2.1).length ≤ a.2.2.1) ∧ a.1.1.length + sizeK (Tree.kids a.2.2.2.1) ≤ 1000000 ∧ zsAt a.1.1 (Int.toNat a.2.1) (Int.toNat a.2.2.1 + (Tree.kids a.2.2.2.1).length)) ∧ (mass a.2.2.2.1 ≤ 1000000 ∧ rng a.2.2.2.1) ∧ ∀ k ∈ Tree.kids a.2.2.2.1, Tree.kind k ≠ 10 ∧ ∃ d, rightT k d = true
def mu56 (a : (List Int × Unit) × Int × Int × Tree × Unit) : Nat := 4 * mass a.2.2.2.1 + 2
noncomputable def res56 (a : (List Int × Unit) × Int × Int × Tree × Unit) : V U := .c (.bool true)
noncomputable def resX56 (a : (List Int × Unit) × Int × Int × Tree × Unit) : List (List (C U)) := [[.mref (.x 0 0)]]
noncomputable def resL56 (a : (List Int × Unit) × Int × Int × Tree × Unit) : List (Tok × LC U) := [(.x 0 0, LC.mk (U := U) .u64 (strR a.1.1 a.2.1 a.2.2.1 a.2.2.2.1) 0)]
noncomputable def spec56 : Fs U := fsXL args56 (fun a => [pre56 a]) res56 resX56 resL56
def args57 : ArgM ((List Int × Unit) × Int × Tree × Unit) := (.obj 0 (.cons (cWr .u64 0 0) .nil) (.cons (aInt .i64) (.cons (aEl .tree) .nil)))
def pre57 (a : (List Int × Unit) × Int × Tree × Unit) : Prop := (0 ≤ a.2.1 ∧ a.2.1 < a.1.1.length ∧ a.1.1.length + sizeN a.2.2.1 ≤ 1000000) ∧ (mass a.2.2.1 ≤ 1000000 ∧ rng a.2.2.1) ∧ Tree.kind a.2.2.1 ≠ 10 ∧ ∃ d, rightT a.2.2.1 d = true ∧ Tree.kind a.2.2.1 = 9
def mu57 (a : (List Int × Unit) × Int × Tree × Unit) : Nat := 4 * mass a.2.2.1 + 2
noncomputable def res57 (a : (List Int × Unit) × Int × Tree × Unit) : V U := .c (.bool true)
noncomputable def resX57 (a : (List Int × Unit) × Int × Tree × Unit) : List (List (C U)) := [[.mref (.x 0 0)]]
noncomputable def resL57 (a : (List Int × Unit) × Int × Tree × Unit) : List (Tok × LC U) := [(.x 0 0, LC.mk (U := U) .u64 (layP a.1.1 a.2.1 a.2.2.1) 0)]
noncomputable def spec57 : Fs U := fsXL args57 (fun a => [pre57 a]) res57 resX57 resL57
noncomputable def know31 (N : Nat) : List (FuncId × Fs U) := (31, fsXL args31 (fun a => [pre31 a, mu31 a < N]) res31 resX31 resL31) :: (58, fsXL args58 (fun a => [pre58 a, mu58 a < N]) res58 resX58 resL58) :: (56, fsXL args56 (fun a => [pre56 a, mu56 a < N]) res56 resX56 resL56) :: (57, fsXL args57 (fun a => [pre57 a, mu57 a < N]) res57 resX57 resL57) :: [(32, spec32), (55, spec55), (59, spec59), (60, spec1060), (74, spec74), (75, spec75)]
def lv31 : Lives U := fun i => match i with
  | 0 => ([(0, []), (1, []), (5, [])], [((.loc 5), []), ((.x 0), [.wr .u64])])
  | 1 => ([(0, []), (1, []), (5, []), (16, [])], [((.loc 5), []), ((.x 0), [.wr .u64])])
  | 2 => ([(6, [])], [((.x 0), [.wr .u64])])
  | 3 => ([(0, []), (1, []), (5, []), (20, [])], [((.loc 5), []), ((.x 0), [.wr .u64])])
  | 4 => ([(0, []), (1, []), (5, []), (7, [])], [((.loc 5), []), ((.x 0), [.wr .u64])])
  | 5 => ([(6, [])], [((.x 0), [.wr .u64])])
  | 6 => ([(0, []), (1, []), (5, []), (53, [])], [((.loc 5), []), ((.x 0), [.wr .u64])])
  | 7 => ([(6, [])], [((.x 0), [.wr .u64])])
  | 8 => ([(0, []), (1, []), (5, []), (61, [])], [((.loc 5), []), ((.x 0), [.wr .u64])])
  | 9 => ([(0, []), (1, []), (5, []), (8, [])], [((.loc 5), []), ((.x 0), [.wr .u64])])
  | 10 => ([(6, [])], [((.x 0), [.wr .u64])])
  | 11 => ([(0, []), (1, []), (5, []), (9, [])], [((.loc 5), []), ((.x 0), [.wr .u64])])
  | 12 => ([(0, []), (1, []), (5, []), (9, []), (10, [])], [((.loc 5), []), ((.x 0), [.wr .u64])])
  | 13 => ([(0, []), (1, []), (5, []), (9, []), (10, [.own .u64]), (88, []), (89, []), (90, [])], [((.loc 5), []), ((.x 0), [.wr .u64])])
  | 14 => ([(0, []), (1, []), (5, []), (9, []), (10, []), (88, []), (89, []), (90, []), (91, [])], [((.loc 5), []), ((.x 0), [.wr .u64])])
  | 15 => ([(0, []), (1, []), (5, []), (9, []), (10, []), (12, []), (88, []), (89, []), (90, [])], [((.loc 5), []), ((.loc 12), []), ((.x 0), [.wr .u64])])
  | 16 => ([(0, []), (1, []), (5, []), (9, []), (10, []), (88, []), (89, []), (90, [])], [((.loc 5), []), ((.x 0), [.wr .u64])])
  | 17 => ([(0, []), (1, []), (5, []), (9, []), (10, [.own .u64]), (88, []), (89, []), (90, [])], [((.loc 5), []), ((.x 0), [.wr .u64])])
  | 18 => ([(0, []), (1, []), (5, []), (9, []), (13, []), (14, [])], [((.loc 5), []), ((.x 0), [.wr .u64])])
  | 19 => ([(0, []), (1, []), (5, []), (9, []), (13, []), (14, []), (15, [])], [((.loc 5), []), ((.x 0), [.wr .u64])])
  | 20 => ([(0, []), (1, []), (5, []), (9, []), (14, []), (15, [])], [((.loc 5), []), ((.x 0), [.wr .u64])])
  | 21 => ([(6, [])], [((.x 0), [.wr .u64])])
  | _ => ([], [])
noncomputable def head31_0 (l : List Int) (at_ : Int) (t : Tree) (x90 : Int) (x10 : List Int) : LSt U := (⟨[(0, .ptr (.x 0) 0), (1, .c (.int .i64 at_)), (5, .ptr (.loc 5) 0), (9, .c (.int .i64 (((Tree.kind t) : Int) - 2))), (10, .c (.slice (U := U) .u64 x10 (.own (.e 10 0)))), (88, .c (.slice (U := U) .tree (Tree.kids t) .unk)), (89, .c (.int .i64 ((Tree.kids t).length : Int))), (90, .c (.int .i64 x90))], [((.loc 5), [.int .i64 (Tree.kind t), .slice (U := U) .u64 (Tree.words t) .unk, .slice (U := U) .tree (Tree.kids t) .unk]), ((.x 0), [.mref (.x 0 0)])], [(.x 0 0, LC.mk (U := U) .u64 l 0)]⟩ : LSt U)
noncomputable abbrev A31 (N : Nat) (p : List Nat) := awp cfg (know (know31 N)) (drawOk cfg (know (know31 N))) Try.f31.ntmps lv31 (cd Try.f31 p)
noncomputable abbrev S31 (N : Nat) (p : List Nat) := seqK cfg (know (know31 N)) (drawOk cfg (know (know31 N))) Try.f31.ntmps lv31 (cd Try.f31 p)
theorem vc31 (N : Nat) (l : List Int) (at_ : Int) (t : Tree) (Q : AExit → LSt U → Prop) (h : ∀ y_1, y_1 = (t) → ∀ y_2, y_2 = (Int.toNat ((((Tree.words t).length : Int) : Int) + ((Tree.kids t).length : Int))) → ∀ y_3, y_3 = (Ptr.mk 1 0 ((Tree.words t).length : Int) ((Tree.kids t).length : Int) 0 0 0 false) → ∀ y_4, y_4 = (pntW at_ (l.length : Int) (Ptr.mk 2 0 0 0 6 ((Tree.kids t).length : Int) 0 false)) → ((((((Tree.kind t) : Int) == 0) = true → (Q .ret (⟨[(6, .c (.bool true))], [((.x 0), [.mref (.x 0 0)])], [(.x 0 0, LC.mk (U := U) .u64 l 0)]⟩ : LSt U))) ∧ ((((Tree.kind t) : Int) == 0) = false → (((((Tree.kind t) : Int) == 1) = true → (InR ((((Tree.words t).length : Int) : Int) + ((Tree.kids t).length : Int))) ∧ (pre32 ((l, ()), ((((Tree.words t).length : Int) : Int) + ((Tree.kids t).length : Int)), ())) ∧ ((pre55 (((l ++ zs y_2), ()), at_, (l.length : Int), y_3, ())) ∧ (Tr ((true) = true)) ∧ (Tr ((true) = true)) ∧ (Tr ((true) = true)) ∧ (Tr ((true) = true)) ∧ (Tr ((true) = true)) ∧ (Tr ((true) = true)) ∧ (pre56 ((((l ++ zs y_2).set (Int.toNat at_) (pntW at_ (l.length : Int) y_3)), ()), (l.length : Int), ((Tree.words t).length : Int), y_1, ())) ∧ (mu56 ((((l ++ zs y_2).set (Int.toNat at_) (pntW at_ (l.length : Int) y_3)), ()), (l.length : Int), ((Tree.words t).length : Int), y_1, ()) < N) ∧ (Q .ret (⟨[(6, .c (.bool (bif true then true else false)))], [((.x 0), [.mref (.x 0 0)])], [(.x 0 0, LC.mk (U := U) .u64 (strR ((l ++ zs y_2).set (Int.toNat at_) (pntW at_ (l.length : Int) y_3)) (l.length : Int) ((Tree.words t).length : Int) y_1) 0)]⟩ : LSt U)))) ∧ ((((Tree.kind t) : Int) == 1) = false → (((((Tree.kind t) : Int) == 9) = true → (pre57 ((l, ()), at_, y_1, ())) ∧ (mu57 ((l, ()), at_, y_1, ()) < N) ∧ (Q .ret (⟨[(6, .c (.bool true))], [((.x 0), [.mref (.x 0 0)])], [(.x 0 0, LC.mk (U := U) .u64 (layP l at_ y_1) 0)]⟩ : LSt U))) ∧ ((((Tree.kind t) : Int) == 9) = false → (((((Tree.kind t) : Int) == 8) = true → (pre32 ((l, ()), ((Tree.kids t).length : Int), ())) ∧ ((pre55 (((l ++ zs (Int.toNat ((Tree.kids t).length : Int))), ()), at_, (l.length : Int), (Ptr.mk 2 0 0 0 6 ((Tree.kids t).length : Int) 0 false), ())) ∧ (Tr ((true) = true)) ∧ (Tr ((true) = true)) ∧ (Tr ((true) = true)) ∧ (pre58 ((((l ++ zs (Int.toNat ((Tree.kids t).length : Int))).set (Int.toNat at_) y_4), ()), (l.length : Int), y_1, ())) ∧ (mu58 ((((l ++ zs (Int.toNat ((Tree.kids t).length : Int))).set (Int.toNat at_) y_4), ()), (l.length : Int), y_1, ()) < N) ∧ (Q .ret (⟨[(6, .c (.bool (bif true then true else false)))], [((.x 0), [.mref (.x 0 0)])], [(.x 0 0, LC.mk (U := U) .u64 (kidzR ((l ++ zs (Int.toNat ((Tree.kids t).length : Int))).set (Int.toNat at_) y_4) (l.length : Int) y_1) 0)]⟩ : LSt U)))) ∧ ((((Tree.kind t) : Int) == 8) = false → (InR (((Tree.kind t) : Int) - 2)) ∧ (((LoopWp (A31 N [1, 1, 1, 1, 0, 1, 0, 0]) (head31_0 l at_ t 0 ([])) (AExit.inBlock 1 (S31 N [1, 1, 1, 1, 1] Q))))))))))))))) :
    A31 N [] (⟨[(0, .ptr (.x 0) 0), (1, .c (.int .i64 at_)), (2, .agg [.int .i64 (Tree.kind t), .slice (U := U) .u64 (Tree.words t) .unk, .slice (U := U) .tree (Tree.kids t) .unk])], [((.x 0), [.mref (.x 0 0)])], [(.x 0 0, LC.mk (U := U) .u64 l 0)]⟩ : LSt U) Q :=
  (Eq.mpr (by kernel_rfl) (h _ (reTree_eq _) _ rfl _ rfl _ rfl) :)
theorem vc31_l0 (N : Nat) (l : List Int) (at_ : Int) (t : Tree) (x90 : Int) (x10 : List Int) (N0 : LSt U → Prop) (Q : AExit → LSt U → Prop) (h : ∀ y_1, y_1 = (List.getD (Tree.kids t) (Int.toNat x90) Tree.nil) → ∀ y_2, y_2 = (Int.toNat ((putW (((Tree.kind t) : Int) - 2) x10).length : Int)) → ∀ y_3, y_3 = (y_1) → (((decide ((x90 : Int) < ((Tree.kids t).length : Int))) = true → ((0 : Int) ≤ x90 ∧ x90 < ((Tree.kids t).length : Int)) ∧ ((pre59 (y_3, 0, ())) ∧ ((x10.length + ([wordAt y_3 0]).length) * 8 ≤ 140737488355328) ∧ ((InR ((x90 : Int) + 1)) ∧ (N0 (head31_0 l at_ t ((x90 : Int) + 1) (x10 ++ ([wordAt y_3 0]))))))) ∧ ((decide ((x90 : Int) < ((Tree.kids t).length : Int))) = false → (pre1060 ((((Tree.kind t) : Int) - 2), x10, ())) ∧ ((pre32 ((l, ()), ((putW (((Tree.kind t) : Int) - 2) x10).length : Int), ())) ∧ (((0 : Int) ≤ (l.length : Int) ∧ (l.length : Int) ≤ ((l ++ zs y_2).length : Int)) ∧ ((0 : Nat) ≤ (Int.toNat (l.length : Int))) ∧ ((Tr ((true) = true)) ∧ (Tr ((true) = true)) ∧ (Tr ((true) = true)) ∧ (Tr ((true) = true)) ∧ (Tr ((true) = true)) ∧ (Tr ((true) = true)) ∧ (Tr ((true) = true)) ∧ (Tr ((true) = true)) ∧ (pre55 (((cpL (l ++ zs y_2) (Int.toNat (l.length : Int)) (putW (((Tree.kind t) : Int) - 2) x10)), ()), at_, (l.length : Int), (Ptr.mk 2 0 0 0 (((Tree.kind t) : Int) - 2) ((Tree.kids t).length : Int) 0 false), ())) ∧ (Q .ret (⟨[(6, .c (.bool (bif true then true else false)))], [((.x 0), [.mref (.x 0 0)])], [(.x 0 0, LC.mk (U := U) .u64 ((cpL (l ++ zs y_2) (Int.toNat (l.length : Int)) (putW (((Tree.kind t) : Int) - 2) x10)).set (Int.toNat at_) (pntW at_ (l.length : Int) (Ptr.mk 2 0 0 0 (((Tree.kind t) : Int) - 2) ((Tree.kids t).length : Int) 0 false))) 0)]⟩ : LSt U)))))))) :
    A31 N [1, 1, 1, 1, 0, 1, 0, 0] (head31_0 l at_ t x90 x10) (AExit.then N0 (AExit.inBlock 1 (S31 N [1, 1, 1, 1, 1] Q))) :=
  (Eq.mpr (by kernel_rfl) (h _ rfl _ rfl _ (reTree_eq _)) :)
abbrev Body31 (N : Nat) (l : List Int) (at_ : Int) (t : Tree)  : Prop := awp cfg (know (know31 N)) (drawOk cfg (know (know31 N))) Try.f31.ntmps lv31 (cd Try.f31 []) (entryL (args31.can ((l, ()), at_, t, ())) (args31.canX ((l, ()), at_, t, ())) (args31.canL ((l, ()), at_, t, ()))) (EndsQL cfg Try.f31.ntmps Try.f31.results.toList (res31 ((l, ()), at_, t, ())) (resX31 ((l, ()), at_, t, ())) (resL31 ((l, ()), at_, t, ())))
abbrev HB31 : Prop := ∀ (N : Nat) (l : List Int) (at_ : Int) (t : Tree) (_ : Unit), pre31 ((l, ()), at_, t, ()) → mu31 ((l, ()), at_, t, ()) < N + 1 → Body31 N l at_ t
noncomputable def know58 (N : Nat) : List (FuncId × Fs U) := know31 N
def lv58 : Lives U := fun i => match i with
  | 0 => ([(0, []), (1, []), (5, [])], [((.loc 5), []), ((.x 0), [.wr .u64])])
  | 1 => ([(0, []), (1, []), (10, []), (11, []), (12, [])], [((.x 0), [.wr .u64])])
  | 2 => ([(0, []), (1, []), (10, []), (11, []), (12, []), (13, [])], [((.x 0), [.wr .u64])])
  | 3 => ([(0, []), (1, []), (7, []), (8, []), (10, []), (11, []), (12, [])], [((.loc 8), []), ((.x 0), [.wr .u64])])
  | 4 => ([(0, []), (1, []), (10, []), (11, []), (12, []), (23, [])], [((.x 0), [.wr .u64])])
  | 5 => ([(6, [])], [((.x 0), [.wr .u64])])
  | 6 => ([(0, []), (1, []), (10, []), (11, []), (12, [])], [((.x 0), [.wr .u64])])
  | 7 => ([(6, [])], [((.x 0), [.wr .u64])])
  | _ => ([], [])
noncomputable def head58_0 (l : List Int) (at_ : Int) (t : Tree) (x12 : Int) (rx_0_0 : List Int) : LSt U := (⟨[(0, .ptr (.x 0) 0), (1, .c (.int .i64 at_)), (10, .c (.slice (U := U) .tree (Tree.kids t) .unk)), (11, .c (.int .i64 ((Tree.kids t).length : Int))), (12, .c (.int .i64 x12))], [((.x 0), [.mref (.x 0 0)])], [(.x 0 0, LC.mk (U := U) .u64 rx_0_0 0)]⟩ : LSt U)
noncomputable abbrev A58 (N : Nat) (p : List Nat) := awp cfg (know (know58 N)) (drawOk cfg (know (know58 N))) Try.f58.ntmps lv58 (cd Try.f58 p)
noncomputable abbrev S58 (N : Nat) (p : List Nat) := seqK cfg (know (know58 N)) (drawOk cfg (know (know58 N))) Try.f58.ntmps lv58 (cd Try.f58 p)
theorem vc58 (N : Nat) (l : List Int) (at_ : Int) (t : Tree) (Q : AExit → LSt U → Prop) (h : ((LoopWp (A58 N [1, 0, 1, 0, 0]) (head58_0 l at_ t 0 l) (AExit.inBlock 0 (S58 N [1, 1] Q))))) :
    A58 N [] (⟨[(0, .ptr (.x 0) 0), (1, .c (.int .i64 at_)), (2, .agg [.int .i64 (Tree.kind t), .slice (U := U) .u64 (Tree.words t) .unk, .slice (U := U) .tree (Tree.kids t) .unk])], [((.x 0), [.mref (.x 0 0)])], [(.x 0 0, LC.mk (U := U) .u64 l 0)]⟩ : LSt U) Q :=
  (Eq.mpr (by kernel_rfl) h :)
theorem vc58_l0 (N : Nat) (l : List Int) (at_ : Int) (t : Tree) (x12 : Int) (rx_0_0 : List Int) (N0 : LSt U → Prop) (Q : AExit → LSt U → Prop) (h : (((decide ((x12 : Int) < ((Tree.kids t).length : Int))) = true → ((0 : Int) ≤ x12 ∧ x12 < ((Tree.kids t).length : Int)) ∧ ((InR ((at_ : Int) + x12)) ∧ (pre31 ((rx_0_0, ()), ((at_ : Int) + x12), (Tree.mk (Tree.kind (List.getD (Tree.kids t) (Int.toNat x12) Tree.nil)) (Tree.words (List.getD (Tree.kids t) (Int.toNat x12) Tree.nil)) (Tree.kids (List.getD (Tree.kids t) (Int.toNat x12) Tree.nil))), ())) ∧ (mu31 ((rx_0_0, ()), ((at_ : Int) + x12), (Tree.mk (Tree.kind (List.getD (Tree.kids t) (Int.toNat x12) Tree.nil)) (Tree.words (List.getD (Tree.kids t) (Int.toNat x12) Tree.nil)) (Tree.kids (List.getD (Tree.kids t) (Int.toNat x12) Tree.nil))), ()) < N) ∧ (((!true) = true → (Q .ret (⟨[(6, .c (.bool false))], [((.x 0), [.mref (.x 0 0)])], [(.x 0 0, LC.mk (U := U) .u64 (layP rx_0_0 ((at_ : Int) + x12) (Tree.mk (Tree.kind (List.getD (Tree.kids t) (Int.toNat x12) Tree.nil)) (Tree.words (List.getD (Tree.kids t) (Int.toNat x12) Tree.nil)) (Tree.kids (List.getD (Tree.kids t) (Int.toNat x12) Tree.nil)))) 0)]⟩ : LSt U))) ∧ ((!true) = false → (InR ((x12 : Int) + 1)) ∧ (N0 (head58_0 l at_ t ((x12 : Int) + 1) (layP rx_0_0 ((at_ : Int) + x12) (Tree.mk (Tree.kind (List.getD (Tree.kids t) (Int.toNat x12) Tree.nil)) (Tree.words (List.getD (Tree.kids t) (Int.toNat x12) Tree.nil)) (Tree.kids (List.getD (Tree.kids t) (Int.toNat x12) Tree.nil)))))))))) ∧ ((decide ((x12 : Int) < ((Tree.kids t).length : Int))) = false → (Q .ret (⟨[(6, .c (.bool true))], [((.x 0), [.mref (.x 0 0)])], [(.x 0 0, LC.mk (U := U) .u64 rx_0_0 0)]⟩ : LSt U))))) :
    A58 N [1, 0, 1, 0, 0] (head58_0 l at_ t x12 rx_0_0) (AExit.then N0 (AExit.inBlock 0 (S58 N [1, 1] Q))) :=
  (Eq.mpr (by kernel_rfl) h :)
abbrev Body58 (N : Nat) (l : List Int) (at_ : Int) (t : Tree)  : Prop := awp cfg (know (know58 N)) (drawOk cfg (know (know58 N))) Try.f58.ntmps lv58 (cd Try.f58 []) (entryL (args58.can ((l, ()), at_, t, ())) (args58.canX ((l, ()), at_, t, ())) (args58.canL ((l, ()), at_, t, ()))) (EndsQL cfg Try.f58.ntmps Try.f58.results.toList (res58 ((l, ()), at_, t, ())) (resX58 ((l, ()), at_, t, ())) (resL58 ((l, ()), at_, t, ())))
abbrev HB58 : Prop := ∀ (N : Nat) (l : List Int) (at_ : Int) (t : Tree) (_ : Unit), pre58 ((l, ()), at_, t, ()) → mu58 ((l, ()), at_, t, ()) < N + 1 → Body58 N l at_ t
noncomputable def know56 (N : Nat) : List (FuncId × Fs U) := know31 N
def lv56 : Lives U := fun i => match i with
  | 0 => ([(0, []), (1, []), (2, []), (7, [])], [((.loc 7), []), ((.x 0), [.wr .u64])])
  | 1 => ([(0, []), (1, []), (2, []), (7, [])], [((.loc 7), []), ((.x 0), [.wr .u64])])
  | 2 => ([(8, [])], [((.x 0), [.wr .u64])])
  | _ => ([], [])
noncomputable abbrev A56 (N : Nat) (p : List Nat) := awp cfg (know (know56 N)) (drawOk cfg (know (know56 N))) Try.f56.ntmps lv56 (cd Try.f56 p)
theorem vc56 (N : Nat) (l : List Int) (at_ : Int) (n : Int) (t : Tree) (Q : AExit → LSt U → Prop) (h : (((0 : Int) ≤ at_ ∧ at_ ≤ (l.length : Int)) ∧ ((0 : Nat) ≤ (Int.toNat at_)) ∧ ((InR ((at_ : Int) + n)) ∧ (pre58 (((cpL l (Int.toNat at_) (Tree.words t)), ()), ((at_ : Int) + n), (Tree.mk (Tree.kind t) (Tree.words t) (Tree.kids t)), ())) ∧ (mu58 (((cpL l (Int.toNat at_) (Tree.words t)), ()), ((at_ : Int) + n), (Tree.mk (Tree.kind t) (Tree.words t) (Tree.kids t)), ()) < N) ∧ (Q .ret (⟨[(8, .c (.bool true))], [((.x 0), [.mref (.x 0 0)])], [(.x 0 0, LC.mk (U := U) .u64 (kidzR (cpL l (Int.toNat at_) (Tree.words t)) ((at_ : Int) + n) (Tree.mk (Tree.kind t) (Tree.words t) (Tree.kids t))) 0)]⟩ : LSt U))))) :
    A56 N [] (⟨[(0, .ptr (.x 0) 0), (1, .c (.int .i64 at_)), (2, .c (.int .i64 n)), (3, .agg [.int .i64 (Tree.kind t), .slice (U := U) .u64 (Tree.words t) .unk, .slice (U := U) .tree (Tree.kids t) .unk])], [((.x 0), [.mref (.x 0 0)])], [(.x 0 0, LC.mk (U := U) .u64 l 0)]⟩ : LSt U) Q :=
  (Eq.mpr (by kernel_rfl) h :)
abbrev Body56 (N : Nat) (l : List Int) (at_ : Int) (n : Int) (t : Tree)  : Prop := awp cfg (know (know56 N)) (drawOk cfg (know (know56 N))) Try.f56.ntmps lv56 (cd Try.f56 []) (entryL (args56.can ((l, ()), at_, n, t, ())) (args56.canX ((l, ()), at_, n, t, ())) (args56.canL ((l, ()), at_, n, t, ()))) (EndsQL cfg Try.f56.ntmps Try.f56.results.toList (res56 ((l, ()), at_, n, t, ())) (resX56 ((l, ()), at_, n, t, ())) (resL56 ((l, ()), at_, n, t, ())))
abbrev HB56 : Prop := ∀ (N : Nat) (l : List Int) (at_ : Int) (n : Int) (t : Tree) (_ : Unit), pre56 ((l, ()), at_, n, t, ()) → mu56 ((l, ()), at_, n, t, ()) < N + 1 → Body56 N l at_ n t
noncomputable def know57 (N : Nat) : List (FuncId × Fs U) := know31 N
def lv57 : Lives U := fun i => match i with
  | 0 => ([(0, []), (1, []), (5, [])], [((.loc 5), []), ((.x 0), [.wr .u64])])
  | 1 => ([(0, []), (1, []), (5, []), (7, []), (8, [])], [((.loc 5), []), ((.x 0), [.wr .u64])])
  | 2 => ([(0, []), (1, []), (5, []), (7, []), (8, []), (9, [])], [((.loc 5), []), ((.x 0), [.wr .u64])])
  | 3 => ([(0, []), (1, []), (5, []), (7, []), (9, []), (10, []), (11, [])], [((.loc 5), []), ((.x 0), [.wr .u64])])
  | 4 => ([(0, []), (1, []), (5, []), (7, []), (9, []), (10, []), (11, []), (34, [])], [((.loc 5), []), ((.x 0), [.wr .u64])])
  | 5 => ([(0, []), (1, []), (5, []), (7, []), (9, []), (10, []), (11, [])], [((.loc 5), []), ((.x 0), [.wr .u64])])
  | 6 => ([(0, []), (1, []), (5, []), (7, []), (9, []), (10, []), (11, []), (12, [])], [((.loc 5), []), ((.x 0), [.wr .u64])])
  | 7 => ([(0, []), (1, []), (5, []), (7, []), (9, []), (11, []), (12, [])], [((.loc 5), []), ((.x 0), [.wr .u64])])
  | 8 => ([(0, []), (5, []), (7, []), (9, []), (11, []), (12, []), (60, [])], [((.loc 5), []), ((.x 0), [.wr .u64])])
  | 9 => ([(6, [])], [((.x 0), [.wr .u64])])
  | 10 => ([(0, []), (5, []), (7, []), (9, []), (11, []), (12, []), (62, []), (63, []), (64, [])], [((.loc 5), []), ((.x 0), [.wr .u64])])
  | 11 => ([(0, []), (5, []), (7, []), (9, []), (11, []), (12, []), (62, []), (63, []), (64, []), (65, [])], [((.loc 5), []), ((.x 0), [.wr .u64])])
  | 12 => ([(0, []), (5, []), (7, []), (9, []), (11, []), (12, []), (13, []), (14, []), (62, []), (63, []), (64, [])], [((.loc 5), []), ((.loc 14), []), ((.x 0), [.wr .u64])])
  | 13 => ([(0, []), (5, []), (7, []), (9, []), (11, []), (12, []), (62, []), (63, []), (64, []), (79, [])], [((.loc 5), []), ((.x 0), [.wr .u64])])
  | 14 => ([(6, [])], [((.x 0), [.wr .u64])])
  | 15 => ([(0, []), (5, []), (7, []), (9, []), (11, []), (12, []), (62, []), (63, []), (64, [])], [((.loc 5), []), ((.x 0), [.wr .u64])])
  | 16 => ([(6, [])], [((.x 0), [.wr .u64])])
  | _ => ([], [])
noncomputable def head57_0 (l : List Int) (at_ : Int) (t : Tree) (rx_0_0 : List Int) (x64 : Int) : LSt U := (⟨[(0, .ptr (.x 0) 0), (5, .ptr (.loc 5) 0), (7, .c (.int .i64 (frW (Tree.kids (Tree.mk (Tree.kind t) (Tree.words t) (Tree.kids t))) : Int))), (9, .c (.int .i64 (((frW (Tree.kids (Tree.mk (Tree.kind t) (Tree.words t) (Tree.kids t))) : Int) : Int) + (frK (Tree.kids (Tree.mk (Tree.kind t) (Tree.words t) (Tree.kids t))) : Int)))), (11, .c (.bool (eqP (decP (encW (Ptr.mk 1 ((Tree.kids t).length : Int) (frW (Tree.kids (Tree.mk (Tree.kind t) (Tree.words t) (Tree.kids t))) : Int) (frK (Tree.kids (Tree.mk (Tree.kind t) (Tree.words t) (Tree.kids t))) : Int) 0 0 0 false))) (Ptr.mk 1 ((Tree.kids t).length : Int) (frW (Tree.kids (Tree.mk (Tree.kind t) (Tree.words t) (Tree.kids t))) : Int) (frK (Tree.kids (Tree.mk (Tree.kind t) (Tree.words t) (Tree.kids t))) : Int) 0 0 0 false) && !decide (Ptr.kind (Ptr.mk 1 ((Tree.kids t).length : Int) (frW (Tree.kids (Tree.mk (Tree.kind t) (Tree.words t) (Tree.kids t))) : Int) (frK (Tree.kids (Tree.mk (Tree.kind t) (Tree.words t) (Tree.kids t))) : Int) 0 0 0 false) = 4)))), (12, .c (.int .i64 (l.length : Int))), (62, .c (.slice (U := U) .tree (Tree.kids t) .unk)), (63, .c (.int .i64 ((Tree.kids t).length : Int))), (64, .c (.int .i64 x64))], [((.loc 5), [.int .i64 (Tree.kind t), .slice (U := U) .u64 (Tree.words t) .unk, .slice (U := U) .tree (Tree.kids t) .unk]), ((.x 0), [.mref (.x 0 0)])], [(.x 0 0, LC.mk (U := U) .u64 rx_0_0 0)]⟩ : LSt U)
noncomputable abbrev A57 (N : Nat) (p : List Nat) := awp cfg (know (know57 N)) (drawOk cfg (know (know57 N))) Try.f57.ntmps lv57 (cd Try.f57 p)
noncomputable abbrev S57 (N : Nat) (p : List Nat) := seqK cfg (know (know57 N)) (drawOk cfg (know (know57 N))) Try.f57.ntmps lv57 (cd Try.f57 p)
theorem vc57 (N : Nat) (l : List Int) (at_ : Int) (t : Tree) (Q : AExit → LSt U → Prop) (h : ∀ y_1, y_1 = (t) → ∀ y_2, y_2 = (Ptr.mk 1 ((Tree.kids t).length : Int) (frW (Tree.kids y_1) : Int) (frK (Tree.kids y_1) : Int) 0 0 0 false) → ∀ y_3, y_3 = (InR ((((Tree.kids t).length : Int) : Int) * (((frW (Tree.kids y_1) : Int) : Int) + (frK (Tree.kids y_1) : Int)))) → ∀ y_4, y_4 = (Int.toNat ((1 : Int) + ((((Tree.kids t).length : Int) : Int) * (((frW (Tree.kids y_1) : Int) : Int) + (frK (Tree.kids y_1) : Int))))) → ∀ y_5, y_5 = (Ptr.mk 2 0 0 0 7 ((((Tree.kids t).length : Int) : Int) * (((frW (Tree.kids y_1) : Int) : Int) + (frK (Tree.kids y_1) : Int))) 0 false) → ∀ y_6, y_6 = (List.set (l ++ zs y_4) (Int.toNat (l.length : Int)) (encW y_2)) → ((pre74 (y_1, ())) ∧ ((InR (((frW (Tree.kids y_1) : Int) : Int) + (frK (Tree.kids y_1) : Int))) ∧ ((pre75 (y_2, ())) ∧ ((((!(eqP (decP (encW y_2)) y_2 && !decide (Ptr.kind y_2 = 4))) = true → (y_3 ∧ (InR ((1 : Int) + ((((Tree.kids t).length : Int) : Int) * (((frW (Tree.kids y_1) : Int) : Int) + (frK (Tree.kids y_1) : Int))))) ∧ (pre32 ((l, ()), ((1 : Int) + ((((Tree.kids t).length : Int) : Int) * (((frW (Tree.kids y_1) : Int) : Int) + (frK (Tree.kids y_1) : Int)))), ())) ∧ (((0 : Int) ≤ (l.length : Int) ∧ (l.length : Int) < ((l ++ zs y_4).length : Int)) ∧ ((0 : Nat) ≤ (Int.toNat (l.length : Int))) ∧ (y_3 ∧ (pre55 (((List.set (l ++ zs y_4) (Int.toNat (l.length : Int)) 0), ()), at_, (l.length : Int), y_5, ())) ∧ (((!true) = true → (Q .ret (⟨[(6, .c (.bool false))], [((.x 0), [.mref (.x 0 0)])], [(.x 0 0, LC.mk (U := U) .u64 ((List.set (l ++ zs y_4) (Int.toNat (l.length : Int)) 0).set (Int.toNat at_) (pntW at_ (l.length : Int) y_5)) 0)]⟩ : LSt U))) ∧ ((!true) = false → (LoopWp (A57 N [1, 1, 1, 1, 1, 1, 1, 1, 0, 1, 0, 0]) (head57_0 l at_ t ((List.set (l ++ zs y_4) (Int.toNat (l.length : Int)) 0).set (Int.toNat at_) (pntW at_ (l.length : Int) y_5)) 0) (AExit.inBlock 0 (S57 N [1, 1, 1, 1, 1, 1, 1, 1, 1] Q))))))))) ∧ ((!(eqP (decP (encW y_2)) y_2 && !decide (Ptr.kind y_2 = 4))) = false → y_3 ∧ (InR ((1 : Int) + ((((Tree.kids t).length : Int) : Int) * (((frW (Tree.kids y_1) : Int) : Int) + (frK (Tree.kids y_1) : Int))))) ∧ (pre32 ((l, ()), ((1 : Int) + ((((Tree.kids t).length : Int) : Int) * (((frW (Tree.kids y_1) : Int) : Int) + (frK (Tree.kids y_1) : Int)))), ())) ∧ (((0 : Int) ≤ (l.length : Int) ∧ (l.length : Int) < ((l ++ zs y_4).length : Int)) ∧ ((0 : Nat) ≤ (Int.toNat (l.length : Int))) ∧ (y_3 ∧ (pre55 ((y_6, ()), at_, (l.length : Int), y_5, ())) ∧ (((!true) = true → (Q .ret (⟨[(6, .c (.bool false))], [((.x 0), [.mref (.x 0 0)])], [(.x 0 0, LC.mk (U := U) .u64 (y_6.set (Int.toNat at_) (pntW at_ (l.length : Int) y_5)) 0)]⟩ : LSt U))) ∧ ((!true) = false → (LoopWp (A57 N [1, 1, 1, 1, 1, 1, 1, 1, 0, 1, 0, 0]) (head57_0 l at_ t (y_6.set (Int.toNat at_) (pntW at_ (l.length : Int) y_5)) 0) (AExit.inBlock 0 (S57 N [1, 1, 1, 1, 1, 1, 1, 1, 1] Q)))))))))))))) :
    A57 N [] (⟨[(0, .ptr (.x 0) 0), (1, .c (.int .i64 at_)), (2, .agg [.int .i64 (Tree.kind t), .slice (U := U) .u64 (Tree.words t) .unk, .slice (U := U) .tree (Tree.kids t) .unk])], [((.x 0), [.mref (.x 0 0)])], [(.x 0 0, LC.mk (U := U) .u64 l 0)]⟩ : LSt U) Q :=
  (Eq.mpr (by kernel_rfl) (h _ (reTree_eq _) _ rfl _ rfl _ rfl _ rfl _ rfl) :)
theorem vc57_l0 (N : Nat) (l : List Int) (at_ : Int) (t : Tree) (rx_0_0 : List Int) (x64 : Int) (N0 : LSt U → Prop) (Q : AExit → LSt U → Prop) (h : ∀ y_1, y_1 = (t) → ∀ y_2, y_2 = (List.getD (Tree.kids t) (Int.toNat x64) Tree.nil) → ∀ y_3, y_3 = (y_2) → ∀ y_4, y_4 = (Ptr.mk 1 ((Tree.kids t).length : Int) (frW (Tree.kids y_1) : Int) (frK (Tree.kids y_1) : Int) 0 0 0 false) → (((decide ((x64 : Int) < ((Tree.kids t).length : Int))) = true → ((0 : Int) ≤ x64 ∧ x64 < ((Tree.kids t).length : Int)) ∧ ((InR (((l.length : Int) : Int) + 1)) ∧ (InR ((x64 : Int) * (((frW (Tree.kids y_1) : Int) : Int) + (frK (Tree.kids y_1) : Int)))) ∧ (InR (((((l.length : Int) : Int) + 1) : Int) + ((x64 : Int) * (((frW (Tree.kids y_1) : Int) : Int) + (frK (Tree.kids y_1) : Int))))) ∧ (pre56 ((rx_0_0, ()), (((((l.length : Int) : Int) + 1) : Int) + ((x64 : Int) * (((frW (Tree.kids y_1) : Int) : Int) + (frK (Tree.kids y_1) : Int)))), (frW (Tree.kids y_1) : Int), y_3, ())) ∧ (mu56 ((rx_0_0, ()), (((((l.length : Int) : Int) + 1) : Int) + ((x64 : Int) * (((frW (Tree.kids y_1) : Int) : Int) + (frK (Tree.kids y_1) : Int)))), (frW (Tree.kids y_1) : Int), y_3, ()) < N) ∧ (((!true) = true → (Q .ret (⟨[(6, .c (.bool false))], [((.x 0), [.mref (.x 0 0)])], [(.x 0 0, LC.mk (U := U) .u64 (strR rx_0_0 (((((l.length : Int) : Int) + 1) : Int) + ((x64 : Int) * (((frW (Tree.kids y_1) : Int) : Int) + (frK (Tree.kids y_1) : Int)))) (frW (Tree.kids y_1) : Int) y_3) 0)]⟩ : LSt U))) ∧ ((!true) = false → (InR ((x64 : Int) + 1)) ∧ (N0 (head57_0 l at_ t (strR rx_0_0 (((((l.length : Int) : Int) + 1) : Int) + ((x64 : Int) * (((frW (Tree.kids y_1) : Int) : Int) + (frK (Tree.kids y_1) : Int)))) (frW (Tree.kids y_1) : Int) y_3) ((x64 : Int) + 1))))))) ∧ ((decide ((x64 : Int) < ((Tree.kids t).length : Int))) = false → (Tr ((!(eqP (decP (encW y_4)) y_4 && !decide (Ptr.kind y_4 = 4))) = true)) ∧ (Tr ((!(eqP (decP (encW y_4)) y_4 && !decide (Ptr.kind y_4 = 4))) = true)) ∧ (Tr ((!(eqP (decP (encW y_4)) y_4 && !decide (Ptr.kind y_4 = 4))) = true)) ∧ (Tr ((!(eqP (decP (encW y_4)) y_4 && !decide (Ptr.kind y_4 = 4))) = true)) ∧ ((!(eqP (decP (encW y_4)) y_4 && !decide (Ptr.kind y_4 = 4))) = true → InR ((((Tree.kids t).length : Int) : Int) + (((frW (Tree.kids y_1) : Int) : Int) + (frK (Tree.kids y_1) : Int)))) ∧ (Tr ((!(eqP (decP (encW y_4)) y_4 && !decide (Ptr.kind y_4 = 4))) = true)) ∧ (((eqP (decP (encW y_4)) y_4 && !decide (Ptr.kind y_4 = 4)) = false → (!(eqP (decP (encW y_4)) y_4 && !decide (Ptr.kind y_4 = 4))) = true)) ∧ (Q .ret (⟨[(6, .c (.bool (bif (eqP (decP (encW y_4)) y_4 && !decide (Ptr.kind y_4 = 4)) then true else ((((((Tree.kids t).length : Int) : Int) + (((frW (Tree.kids y_1) : Int) : Int) + (frK (Tree.kids y_1) : Int))) : Int) == 0))))], [((.x 0), [.mref (.x 0 0)])], [(.x 0 0, LC.mk (U := U) .u64 rx_0_0 0)]⟩ : LSt U))))) :
    A57 N [1, 1, 1, 1, 1, 1, 1, 1, 0, 1, 0, 0] (head57_0 l at_ t rx_0_0 x64) (AExit.then N0 (AExit.inBlock 0 (S57 N [1, 1, 1, 1, 1, 1, 1, 1, 1] Q))) :=
  (Eq.mpr (by kernel_rfl) (h _ (reTree_eq _) _ rfl _ (reTree_eq _) _ rfl) :)
abbrev Body57 (N : Nat) (l : List Int) (at_ : Int) (t : Tree)  : Prop := awp cfg (know (know57 N)) (drawOk cfg (know (know57 N))) Try.f57.ntmps lv57 (cd Try.f57 []) (entryL (args57.can ((l, ()), at_, t, ())) (args57.canX ((l, ()), at_, t, ())) (args57.canL ((l, ()), at_, t, ()))) (EndsQL cfg Try.f57.ntmps Try.f57.results.toList (res57 ((l, ()), at_, t, ())) (resX57 ((l, ()), at_, t, ())) (resL57 ((l, ()), at_, t, ())))
abbrev HB57 : Prop := ∀ (N : Nat) (l : List Int) (at_ : Int) (t : Tree) (_ : Unit), pre57 ((l, ()), at_, t, ()) → mu57 ((l, ()), at_, t, ()) < N + 1 → Body57 N l at_ t
theorem make31_ (c32 : Contract Try.prog cfg 32 spec32) (c55 : Contract Try.prog cfg 55 spec55) (c59 : Contract Try.prog cfg 59 spec59) (c1060 : Contract Try.prog cfg 60 spec1060) (c74 : Contract Try.prog cfg 74 spec74) (c75 : Contract Try.prog cfg 75 spec75) (b31 : HB31) (b58 : HB58) (b56 : HB56) (b57 : HB57) :
    Contract Try.prog cfg 31 spec31 ∧ Contract Try.prog cfg 58 spec58 ∧ Contract Try.prog cfg 56 spec56 ∧ Contract Try.prog cfg 57 spec57 := by
  have h74 : ∃ fn, Try.prog.funcs[(31 : FuncId)]? = some fn ∧ fn.body.isSome = true ∧ (fn.name == "runtime.NumGoroutine") = false := ⟨Try.f31, Try.func31, rfl, rfl⟩
  have h99 : ∃ fn, Try.prog.funcs[(58 : FuncId)]? = some fn ∧ fn.body.isSome = true ∧ (fn.name == "runtime.NumGoroutine") = false := ⟨Try.f58, Try.func58, rfl, rfl⟩
  have h97 : ∃ fn, Try.prog.funcs[(56 : FuncId)]? = some fn ∧ fn.body.isSome = true ∧ (fn.name == "runtime.NumGoroutine") = false := ⟨Try.f56, Try.func56, rfl, rfl⟩
  have h98 : ∃ fn, Try.prog.funcs[(57 : FuncId)]? = some fn ∧ fn.body.isSome = true ∧ (fn.name == "runtime.NumGoroutine") = false := ⟨Try.f57, Try.func57, rfl, rfl⟩
  have key : ∀ N, Contract Try.prog cfg 31 (fsXL args31 (fun a => [pre31 a, mu31 a < N]) res31 resX31 resL31) ∧ Contract Try.prog cfg 58 (fsXL args58 (fun a => [pre58 a, mu58 a < N]) res58 resX58 resL58) ∧ Contract Try.prog cfg 56 (fsXL args56 (fun a => [pre56 a, mu56 a < N]) res56 resX56 resL56) ∧ Contract Try.prog cfg 57 (fsXL args57 (fun a => [pre57 a, mu57 a < N]) res57 resX57 resL57) := by
    intro N
    induction N with
    | zero => exact ⟨fsXL_zero h74, fsXL_zero h99, fsXL_zero h97, fsXL_zero h98⟩
    | succ N ih =>
      have kn := know_ok (l := know31 N) ⟨ih.1, ih.2.1, ih.2.2.1, ih.2.2.2, c32, c55, c59, c1060, c74, c75, trivial⟩
      exact ⟨contract_fsXL (Γ := know (know31 N)) cfgOk rfl kn lv31 Try.func31 rfl rfl (fun a => by show 3 ≤ _; decide) (fun ⟨⟨l, _⟩, at_, t, _⟩ h => b31 N l at_ t () h.1 h.2.1),
        contract_fsXL (Γ := know (know31 N)) cfgOk rfl kn lv58 Try.func58 rfl rfl (fun a => by show 3 ≤ _; decide) (fun ⟨⟨l, _⟩, at_, t, _⟩ h => b58 N l at_ t () h.1 h.2.1),
        contract_fsXL (Γ := know (know31 N)) cfgOk rfl kn lv56 Try.func56 rfl rfl (fun a => by show 4 ≤ _; decide) (fun ⟨⟨l, _⟩, at_, n, t, _⟩ h => b56 N l at_ n t () h.1 h.2.1),
        contract_fsXL (Γ := know (know31 N)) cfgOk rfl kn lv57 Try.func57 rfl rfl (fun a => by show 3 ≤ _; decide) (fun ⟨⟨l, _⟩, at_, t, _⟩ h => b57 N l at_ t () h.1 h.2.1)⟩
  exact ⟨fsXL_less fun N => (key N).1, fsXL_less fun N => (key N).2.1, fsXL_less fun N => (key N).2.2.1, fsXL_less fun N => (key N).2.2.2⟩
end Go.AM.Ytcljdbpmjdgooaa

namespace Go.AM.Ytcljdbpmjdgooaa
open Go.AM Go.Proofs
def KidsOk (ks : List Tree) : Prop := ∀ k ∈ ks, k.kind ≠ 10 ∧ ∃ d, rightT k d = true
theorem kidsP_blk' : ∀ (ks : List Tree) (a to : Int), KidsOk ks → (kidsP ks a to).2.length = sizeK ks
  | [], _, _, _ => by rw [kidsP, sizeK]; rfl
  | t :: r, a, to, h => by
    obtain ⟨h1, d, h2⟩ := h t List.mem_cons_self
    rw [kidsP, sizeK, List.length_append, blkP_len t d to h2 h1, kidsP_blk' r _ _ fun t ht => h t (List.mem_cons_of_mem _ ht)]
theorem KidsOk.take {ks : List Tree} (h : KidsOk ks) (n : Nat) : KidsOk (ks.take n) := fun k hk => h k (List.mem_of_mem_take hk)
theorem kst_pre {A S : List Int} {ks : List Tree} {to : Int} {i : Nat} (hi : i < ks.length) (hK : KidsOk ks) (hl : A.length + ks.length + S.length + sizeK ks ≤ 1000000) :
    A.length + i < (kidsSt A S ks to i).length ∧ (kidsSt A S ks to i).length + sizeN (ks.getD i Tree.nil) ≤ 1000000 := by
  have h1 := kidsSt_len A S ks to (Nat.le_of_lt hi)
  rw [kidsP_blk' _ _ _ (hK.take i)] at h1
  have h2 := sizeK_take (ks := ks) (i := i) (by omega) (by omega)
  have h3 := sizeK_take_le ks (i + 1)
  rw [show ((i : Int) + 1).toNat = i + 1 by omega, Int.toNat_natCast] at h2
  omega
theorem kid_rng {t : Tree} (h : rng t) {k : Tree} (hk : k ∈ t.kids) : rng k := by
  obtain ⟨k', w, ks⟩ := t
  rw [rng] at h
  have : ∀ l : List Tree, rngK l → ∀ t' ∈ l, rng t' := by
    intro l
    induction l with
    | nil => intro _ t' h; cases h
    | cons x l ih =>
      intro h t' ht
      rw [rngK] at h
      rcases List.mem_cons.1 ht with rfl | ht
      · exact h.1
      · exact ih h.2 t' ht
  exact this ks h.2.2 k hk
theorem RiT.kidsOk {k : Int} {w : List Int} {ks : List Tree} {d : Int} (h : RiT k w ks d) (hk : k = 1 ∨ k = 8) : KidsOk ks := fun t ht => ⟨(h.kids t ht).2.2.1 hk, _, (h.kids t ht).1⟩
theorem fr_lt {ks : List Tree} (h : ∀ t ∈ ks, t.words.length < 65536 ∧ t.kids.length < 65536) : frW ks < 65536 ∧ frK ks < 65536 := by
  induction ks with
  | nil => exact ⟨by simp [frW], by simp [frK]⟩
  | cons t l ih =>
    have h1 := h t List.mem_cons_self
    have h2 := ih fun t ht => h t (List.mem_cons_of_mem _ ht)
    rw [frW, frK]
    omega
theorem riT' {t : Tree} {d : Int} (h : rightT t d = true) : RiT t.kind t.words t.kids d := riT (by rw [Tree.eta]; exact h)
theorem RiT.rows {w : List Int} {ks : List Tree} {d : Int} (h : RiT 9 w ks d) : ∀ t ∈ ks, t.kind = 1 ∧ KidsOk t.kids ∧ t.words.length < 65536 ∧ t.kids.length < 65536 := by
  intro t ht
  have h1 := h.kids t ht
  have hk := h1.2.2.2 rfl
  have r := riT' h1.1
  rw [hk] at r
  exact ⟨hk, r.kidsOk (.inl rfl), r.stru rfl⟩
theorem rowsP_blk' (fw fk : Nat) : ∀ (ks : List Tree) (a to : Int), (∀ t ∈ ks, KidsOk t.kids) → (rowsP fw fk ks a to).2.length = sizeR ks
  | [], _, _, _ => by rw [rowsP, sizeR]; rfl
  | .mk k w l :: r, a, to, h => by
    have h1 := h _ List.mem_cons_self
    rw [rowsP, sizeR, List.length_append, kidsP_blk' l _ _ h1, rowsP_blk' fw fk r _ _ fun t ht => h t (List.mem_cons_of_mem _ ht)]
theorem size_eq (t : Tree) : sizeN t = if t.kind = 1 then t.words.length + t.kids.length + sizeK t.kids else if t.kind = 8 then t.kids.length + sizeK t.kids else if t.kind = 9 then 1 + t.kids.length * (frW t.kids + frK t.kids) + sizeR t.kids
    else if 2 ≤ t.kind ∧ t.kind ≤ 7 then (roomW (t.kind - 2) t.kids.length).toNat else sizeK t.kids := by
  obtain ⟨k, w, ks⟩ := t
  rw [sizeN]; rfl
theorem head_eq (a to : Int) (t : Tree) : headP a to t = if t.kind = 0 then 0
    else if t.kind = 1 then ptrP a (if t.words.length + t.kids.length = 0 then a else to) 0 (t.words.length + 65536 * t.kids.length)
    else if t.kind = 8 then ptrP a to 1 (6 + 8 * t.kids.length)
    else if t.kind = 9 then ptrP a to 1 (7 + 8 * (t.kids.length * (frW t.kids + frK t.kids) : Nat))
    else ptrP a to 1 (t.kind - 2 + 8 * t.kids.length) := by
  obtain ⟨k, w, ks⟩ := t
  rfl
theorem blk_eq (t : Tree) (to : Int) : blkP t to = if t.kind = 0 then []
    else if t.kind = 1 then t.words ++ ((kidsP t.kids (to + t.words.length) (to + t.words.length + t.kids.length)).1 ++ (kidsP t.kids (to + t.words.length) (to + t.words.length + t.kids.length)).2)
    else if t.kind = 8 then (kidsP t.kids to (to + t.kids.length)).1 ++ (kidsP t.kids to (to + t.kids.length)).2
    else if t.kind = 9 then tagP t.kids.length (frW t.kids) (frK t.kids) :: ((rowsP (frW t.kids) (frK t.kids) t.kids (to + 1) (to + 1 + (t.kids.length * (frW t.kids + frK t.kids) : Nat))).1 ++ (rowsP (frW t.kids) (frK t.kids) t.kids (to + 1) (to + 1 + (t.kids.length * (frW t.kids + frK t.kids) : Nat))).2)
    else putR (t.kind - 2) (numsP t.kids) := by
  obtain ⟨k, w, ks⟩ := t
  rw [blkP]; rfl
end Go.AM.Ytcljdbpmjdgooaa

namespace Go.AM.Ytcljdbpmjdgooaa
open Go.AM Go.Proofs
theorem zsAt_mk (A S : List Int) (n : Nat) : zsAt (A ++ (zs n ++ S)) A.length n := ⟨A, S, rfl, rfl⟩
theorem take_mk (A B : List Int) {a : Nat} (h : A.length = a) : (A ++ B).take a = A := by rw [← h, List.take_left]
theorem drop_mk (A B : List Int) {a : Nat} (h : A.length = a) : (A ++ B).drop a = B := by rw [← h, List.drop_left]
theorem strR_mk {X Y : List Int} {fw : Nat} {t : Tree} {a : Nat} (ha : X.length = a) (hw : t.words.length ≤ fw) (n : Nat) :
    strR (X ++ (zs (fw + (t.kids.length + n)) ++ Y)) a fw t = X ++ (t.words ++ (zs (fw - t.words.length) ++ ((kidsP t.kids ((a : Int) + fw) (X ++ (zs (fw + (t.kids.length + n)) ++ Y)).length).1 ++ (zs n ++ (Y ++ (kidsP t.kids ((a : Int) + fw) (X ++ (zs (fw + (t.kids.length + n)) ++ Y)).length).2))))) := by
  generalize hP : kidsP t.kids ((a : Int) + fw) (X ++ (zs (fw + (t.kids.length + n)) ++ Y)).length = P
  unfold strR
  rw [hP, Int.toNat_natCast, Int.toNat_natCast, take_mk _ _ ha]
  have e : X ++ (zs (fw + (t.kids.length + n)) ++ Y) = (X ++ zs (fw + t.kids.length)) ++ (zs n ++ Y) := by
    rw [← Nat.add_assoc, zs_add (fw + t.kids.length) n]
    simp only [List.append_assoc]
  rw [e, drop_mk (a := a + fw + t.kids.length) _ _ (by rw [List.length_append, zs_len]; omega)]
  simp only [List.append_assoc]
theorem row_str {A : List Int} {fw fk : Nat} {ks : List Tree} (h : Fit fw fk ks) {i : Nat} (hi : i < ks.length) :
    zsAt (rowSt A (zs ((ks.length - i) * (fw + fk))) fw fk ks i) (A.length + i * (fw + fk)) (fw + (ks.getD i Tree.nil).kids.length) ∧
      strR (rowSt A (zs ((ks.length - i) * (fw + fk))) fw fk ks i) ((A.length + i * (fw + fk) : Nat) : Int) fw (ks.getD i Tree.nil) = rowSt A (zs ((ks.length - (i + 1)) * (fw + fk))) fw fk ks (i + 1) := by
  have hf := h.get hi
  have hall := row_all (A := A) (R := zs ((ks.length - (i + 1)) * (fw + fk))) h hi (zs_len _)
  have hz := row_zero (A := A) (R := zs ((ks.length - (i + 1)) * (fw + fk))) h hi 0
  have hAl := rowA_len (A := A) h hi
  have hSl := rowS_len (A := A) (R := zs ((ks.length - (i + 1)) * (fw + fk))) h hi (zs_len _)
  generalize hk : ks.getD i Tree.nil = t at *
  have ez : (ks.length - i) * (fw + fk) = fw + (t.kids.length + ((fk - t.kids.length) + (ks.length - (i + 1)) * (fw + fk))) := by
    have : (ks.length - i) * (fw + fk) = (ks.length - (i + 1)) * (fw + fk) + (fw + fk) := by rw [← Nat.succ_mul]; congr 1; omega
    omega
  have eL : rowSt A (zs ((ks.length - i) * (fw + fk))) fw fk ks i = (A ++ (rowsP fw fk (ks.take i) A.length (A.length + ks.length * (fw + fk) : Nat)).1) ++ (zs (fw + (t.kids.length + ((fk - t.kids.length) + (ks.length - (i + 1)) * (fw + fk)))) ++ (rowsP fw fk (ks.take i) A.length (A.length + ks.length * (fw + fk) : Nat)).2) := by
    unfold rowSt
    rw [ez]
    simp only [List.append_assoc]
  have eX : (A ++ (rowsP fw fk (ks.take i) A.length (A.length + ks.length * (fw + fk) : Nat)).1).length = A.length + i * (fw + fk) := by
    rw [List.length_append, rowsP_len _ _ _ (h.take i), List.length_take, Nat.min_eq_left (Nat.le_of_lt hi)]
  constructor
  · rw [eL, ← eX, ← Nat.add_assoc fw, zs_add]
    have := zsAt_mk (A ++ (rowsP fw fk (ks.take i) A.length (A.length + ks.length * (fw + fk) : Nat)).1) (zs ((fk - t.kids.length) + (ks.length - (i + 1)) * (fw + fk)) ++ (rowsP fw fk (ks.take i) A.length (A.length + ks.length * (fw + fk) : Nat)).2) (fw + t.kids.length)
    rwa [← List.append_assoc (zs _)] at this
  · have hlen : ((A ++ (rowsP fw fk (ks.take i) A.length (A.length + ks.length * (fw + fk) : Nat)).1) ++ (zs (fw + (t.kids.length + ((fk - t.kids.length) + (ks.length - (i + 1)) * (fw + fk)))) ++ (rowsP fw fk (ks.take i) A.length (A.length + ks.length * (fw + fk) : Nat)).2)).length = (rowA A fw fk ks i).length + t.kids.length + (rowS A (zs ((ks.length - (i + 1)) * (fw + fk))) fw fk ks i).length := by
      rw [hSl, List.length_append, eX, List.length_append, zs_len]
      have : ks.length * (fw + fk) = i * (fw + fk) + (ks.length - i) * (fw + fk) := by rw [← Nat.add_mul]; congr 1; omega
      omega
    rw [eL, strR_mk eX hf.1, hlen, ← hall, kidsSt_all, hAl]
    unfold rowA rowS
    rw [hk, zs_add (fk - t.kids.length)]
    simp only [List.append_assoc, Int.natCast_add]
theorem cpL_mk {X Y w : List Int} {n : Nat} {a : Nat} (ha : X.length = a) (hw : w.length ≤ n) : cpL (X ++ (zs n ++ Y)) a w = X ++ (w ++ (zs (n - w.length) ++ Y)) := by
  unfold cpL
  have e : X ++ (zs n ++ Y) = (X ++ zs w.length) ++ (zs (n - w.length) ++ Y) := by
    rw [show n = w.length + (n - w.length) by omega, zs_add]
    simp only [List.append_assoc, show w.length + (n - w.length) - w.length = n - w.length by omega]
  rw [take_mk _ _ ha, List.take_of_length_le (by simp only [List.length_append, zs_len]; omega)]
  conv => lhs; rw [e]
  rw [drop_mk (a := a + w.length) _ _ (by rw [List.length_append, zs_len]; omega)]
theorem set_left {l b : List Int} {a : Nat} (h : a < l.length) (x : Int) : (l ++ b).set a x = l.set a x ++ b := List.set_append_left _ _ h
theorem b58 : HB58 := by
  intro N l at_ t _ hp hN
  obtain ⟨⟨h1, h2, h3⟩, ⟨hm, hg⟩, hK⟩ := hp
  dsimp only at h1 h2 h3 hm hg hK
  have hN : 4 * mass t + 1 < N + 1 := hN
  obtain ⟨a, rfl⟩ := Int.eq_ofNat_of_zero_le h1
  rw [Int.toNat_natCast] at h3
  have hk := kids_le t
  obtain ⟨s1, s2, s3⟩ := zsAt_split h3
  have hl := kidzR_len h3
  refine vc58 _ _ _ _ _ ?_
  refine loop_rule (ι := Int) (fun p => head58_0 l a t p (kidsSt (l.take a) (l.drop (a + t.kids.length)) t.kids l.length p.toNat)) (fun p => 0 ≤ p ∧ p ≤ t.kids.length) (fun p => ((t.kids.length : Int) - p).toNat) 0 (by rw [show (0 : Int).toNat = 0 from rfl, kidzR_zero h3]) ⟨by omega, by omega⟩ ?_
  rintro i ⟨g1, g2⟩
  refine vc58_l0 _ _ _ _ _ _ _ _ ?_
  (simp only [vcT, vcS])
  simp only [Tree.eta, vcF]
  refine ⟨fun hi => ?_, fun hi => ?_⟩
  · have m1 := kid_mass (t := t) (i := i.toNat) (by omega)
    have m4 := mem_getD (l := t.kids) (i := i.toNat) (by omega) Tree.nil
    obtain ⟨p1, p2⟩ := kst_pre (A := l.take a) (S := l.drop (a + t.kids.length)) (ks := t.kids) (to := l.length) (i := i.toNat) (by omega) hK (by rw [hl]; exact h2)
    rw [s2] at p1
    have st := kidzR_step h3 (i := i.toNat) (by omega)
    refine ⟨⟨g1, hi⟩, ?_, ⟨⟨?_, ?_, ?_⟩, ⟨?_, kid_rng hg m4⟩, (hK _ m4).1, (hK _ m4).2⟩, ?_, by ((unfold InR; omega)), i + 1, ?_, ⟨by omega, by omega⟩, by omega⟩
    · show InR ((a : Int) + i); ((unfold InR; omega))
    · show 0 ≤ (a : Int) + i; omega
    · show (a : Int) + i < ((kidsSt (l.take a) (l.drop (a + t.kids.length)) t.kids l.length i.toNat).length : Nat); omega
    · exact p2
    · show mass (t.kids.getD i.toNat Tree.nil) ≤ 1000000; omega
    · show 4 * mass (t.kids.getD i.toNat Tree.nil) + 3 < N; omega
    · rw [show (i + 1).toNat = i.toNat + 1 by omega, ← st, show ((i.toNat : Nat) : Int) = i by omega]
  · have e : i = t.kids.length := by omega
    subst e
    rw [Int.toNat_natCast, kidzR_all h3]
    (repeat' (first | exact trivial | exact rfl | apply And.intro))
theorem b56 : HB56 := by
  intro N l at_ n t _ hp hN
  obtain ⟨⟨⟨h1, h4⟩, h2, h3⟩, ⟨hm, hg⟩, hK⟩ := hp
  dsimp only at h1 h2 h3 h4 hm hg hK
  have hN : 4 * mass t + 2 < N + 1 := hN
  obtain ⟨a, rfl⟩ := Int.eq_ofNat_of_zero_le h1
  obtain ⟨m, rfl⟩ := Int.eq_ofNat_of_zero_le (show 0 ≤ n by omega)
  rw [Int.toNat_natCast, Int.toNat_natCast] at h3
  have h4 : t.words.length ≤ m := by have : (t.words.length : Int) ≤ (m : Int) := h4; omega
  obtain ⟨X, Y, rfl, ha⟩ := h3
  have hlen : (X ++ (zs (m + t.kids.length) ++ Y)).length = a + (m + t.kids.length) + Y.length := by simp only [List.length_append, zs_len]; omega
  have ecp : cpL (X ++ (zs (m + t.kids.length) ++ Y)) a t.words = (X ++ (t.words ++ zs (m - t.words.length))) ++ (zs t.kids.length ++ Y) := by
    rw [cpL_mk ha (by omega), show m + t.kids.length - t.words.length = (m - t.words.length) + t.kids.length by omega, zs_add]
    simp only [List.append_assoc]
  have eX : (X ++ (t.words ++ zs (m - t.words.length))).length = a + m := by simp only [List.length_append, zs_len]; omega
  have hl2 : ((X ++ (t.words ++ zs (m - t.words.length))) ++ (zs t.kids.length ++ Y)).length = (X ++ (zs (m + t.kids.length) ++ Y)).length := by
    rw [hlen, List.length_append, eX]; simp only [List.length_append, zs_len]; omega
  have hz : zsAt ((X ++ (t.words ++ zs (m - t.words.length))) ++ (zs t.kids.length ++ Y)) (a + m) t.kids.length := by rw [← eX]; exact zsAt_mk _ _ _
  have eres : kidzR ((X ++ (t.words ++ zs (m - t.words.length))) ++ (zs t.kids.length ++ Y)) ((a : Int) + m) t = strR (X ++ (zs (m + t.kids.length) ++ Y)) a m t := by
    have := strR_mk (X := X) (Y := Y) (fw := m) (t := t) ha h4 0
    rw [Nat.add_zero] at this
    rw [this]
    unfold kidzR
    rw [hl2, show ((a : Int) + m).toNat = a + m by omega, take_mk _ _ eX, ← List.append_assoc _ (zs t.kids.length) Y, drop_mk (a := a + m + t.kids.length) _ _ (by rw [List.length_append, eX, zs_len])]
    simp [zs]
  refine vc56 N (X ++ (zs (m + t.kids.length) ++ Y)) a m t _ ?_
  simp only [Tree.eta]
  rw [Int.toNat_natCast, ecp]
  refine ⟨⟨by omega, by rw [hlen]; omega⟩, Nat.zero_le _, ?_, ⟨⟨?_, ?_, ?_⟩, ⟨hm, hg⟩, hK⟩, ?_, ?_⟩
  · show InR ((a : Int) + m)
    rw [hlen] at h2
    ((unfold InR; omega))
  · show 0 ≤ (a : Int) + m; omega
  · show ((X ++ (t.words ++ zs (m - t.words.length))) ++ (zs t.kids.length ++ Y)).length + _ ≤ _; rw [hl2]; exact h2
  · show zsAt _ ((a : Int) + m).toNat _
    rw [show ((a : Int) + m).toNat = a + m by omega]
    exact hz
  · show 4 * mass t + 1 < N; omega
  · rw [eres]
    (repeat' (first | exact trivial | exact rfl | apply And.intro))
theorem pnt_head1 {a to : Int} {t : Tree} (k1 : t.kind = 1) : pntW a to (Ptr.mk 1 0 (t.words.length : Int) (t.kids.length : Int) 0 0 0 false) = headP a to t := by
  rw [head_eq, if_neg (by omega), if_pos k1]
  unfold pntW
  dsimp only
  rw [if_pos rfl]
  congr 1
  split <;> split <;> omega
theorem pnt_head {a to : Int} {c n : Int} : pntW a to (Ptr.mk 2 0 0 0 c n 0 false) = ptrP a to 1 (c + 8 * n) := by
  unfold pntW
  dsimp only
  rw [if_neg (by decide)]
theorem pntOk1 {o d p : Int} (hd : 0 ≤ d ∧ d < 65536) (hp : 0 ≤ p ∧ p < 65536) : pntOk (Ptr.mk 1 o d p 0 0 0 false) := ⟨.inl ⟨rfl, hd, hp, rfl, rfl⟩, rfl, rfl⟩
theorem pntOk2 {o c n : Int} (hc : 0 ≤ c ∧ c < 8) (hn : 0 ≤ n ∧ n < 536870912) : pntOk (Ptr.mk 2 o 0 0 c n 0 false) := ⟨.inr ⟨rfl, rfl, rfl, hc, hn⟩, rfl, rfl⟩
set_option maxHeartbeats 1000000 in
theorem b31 : HB31 := by
  intro N l at_ t _ hp hN
  obtain ⟨⟨h1, h2, h3⟩, ⟨hm, hg⟩, h10, d, hr⟩ := hp
  dsimp only at h1 h2 h3 hm hg h10 hr
  have hN : 4 * mass t + 3 < N + 1 := hN
  obtain ⟨a, rfl⟩ := Int.eq_ofNat_of_zero_le h1
  have h2 : a < l.length := by have : (a : Int) < l.length := h2; omega
  have rt := riT' hr
  have hk := kids_le t
  have hkr := rt.kind
  have hlen := rt.len
  have fin : ∀ {L : List Int}, L = layP l a t → EndsQL cfg Try.f31.ntmps Try.f31.results.toList (res31 ((l, ()), (a : Int), t, ())) (resX31 ((l, ()), (a : Int), t, ())) (resL31 ((l, ()), (a : Int), t, ())) .ret (⟨[(6, .c (.bool true))], [((.x 0), [.mref (.x 0 0)])], [(.x 0 0, LC.mk (U := U) .u64 L 0)]⟩ : LSt U) := by
    rintro L rfl
    (repeat' (first | exact trivial | exact rfl | apply And.intro))
  have lay : ∀ {h : Int} {b : List Int}, t.kind ≠ 0 → headP a l.length t = h → blkP t l.length = b → l.set a h ++ b = layP l a t := by
    rintro h b h0 rfl rfl
    unfold layP
    rw [if_neg h0]
    rfl
  refine vc31 N l a t _ ?_
  rintro y1 rfl y2 e2 y3 e3 y4 e4
  (simp only [vcT, vcS])
  simp only [vcF, Int.toNat_natCast]
  refine ⟨fun k0 => fin (by unfold layP; rw [if_pos k0]), fun k0 => ⟨fun k1 => ?_, fun k1 => ⟨fun k9 => ?_, fun k9 => ⟨fun k8 => ?_, fun k8 => ?_⟩⟩⟩⟩
  · have hs := rt.stru k1
    have sz := size_eq y1
    rw [if_pos k1] at sz
    have hb := blk_eq y1 l.length
    rw [if_neg k0, if_pos k1] at hb
    have kOk := rt.kidsOk (.inl k1)
    have e2 : y2 = y1.words.length + (y1.kids.length + 0) := by omega
    rw [e3, pnt_head1 k1, set_left h2, e2]
    have hls : (l.set a (headP a l.length y1)).length = l.length := by simp
    have hz : l.set a (headP a l.length y1) ++ zs (y1.words.length + (y1.kids.length + 0)) = l.set a (headP a l.length y1) ++ (zs (y1.words.length + (y1.kids.length + 0)) ++ []) := by simp
    have hst := strR_mk (X := l.set a (headP a l.length y1)) (Y := []) (fw := y1.words.length) (t := y1) hls (Nat.le_refl _) 0
    rw [← hz] at hst
    rw [hst]
    refine ⟨by ((unfold InR; omega)), ⟨by dsimp only; omega, by dsimp only; omega, by dsimp only; omega⟩, ⟨⟨by dsimp only; omega, ?_, by dsimp only; omega, by dsimp only; omega⟩, pntOk1 (by omega) (by omega)⟩, ⟨⟨⟨by dsimp only; omega, by dsimp only; omega⟩, ?_, ?_⟩, ⟨hm, hg⟩, kOk⟩, ?_, fin ?_⟩
    · dsimp only; rw [List.length_append, zs_len]; omega
    · dsimp only; rw [List.length_append, hls, zs_len]; omega
    · dsimp only
      rw [Int.toNat_natCast, Int.toNat_natCast, hz]
      have := zsAt_mk (l.set a (headP a l.length y1)) [] (y1.words.length + (y1.kids.length + 0))
      rw [hls] at this
      exact this
    · show 4 * mass y1 + 2 < N; omega
    · rw [← lay k0 rfl hb, Nat.sub_self, List.length_append, hls, zs_len]
      simp [zs, Int.add_assoc]
  · refine ⟨⟨⟨h1, by dsimp only; omega, h3⟩, ⟨hm, hg⟩, h10, d, hr, k9⟩, ?_, fin rfl⟩
    show 4 * mass y1 + 2 < N
    omega
  · have sz := size_eq y1
    rw [if_neg k1, if_pos k8] at sz
    have hh := head_eq a l.length y1
    rw [if_neg k0, if_neg k1, if_pos k8] at hh
    have hb := blk_eq y1 l.length
    rw [if_neg k0, if_neg k1, if_pos k8] at hb
    have kOk := rt.kidsOk (.inr k8)
    rw [e4, pnt_head, ← hh, set_left h2]
    have hls : (l.set a (headP a l.length y1)).length = l.length := by simp
    have hz : l.set a (headP a l.length y1) ++ zs y1.kids.length = l.set a (headP a l.length y1) ++ (zs y1.kids.length ++ []) := by simp
    refine ⟨⟨by dsimp only; omega, by dsimp only; omega, by dsimp only; omega⟩, ⟨⟨by dsimp only; omega, ?_, by dsimp only; omega, by dsimp only; omega⟩, pntOk2 (by omega) (by omega)⟩, ⟨⟨by dsimp only; omega, ?_, ?_⟩, ⟨hm, hg⟩, kOk⟩, ?_, fin ?_⟩
    · dsimp only; rw [List.length_append, zs_len]; omega
    · dsimp only; rw [List.length_append, hls, zs_len]; omega
    · dsimp only
      rw [Int.toNat_natCast, hz]
      have := zsAt_mk (l.set a (headP a l.length y1)) [] y1.kids.length
      rw [hls] at this
      exact this
    · show 4 * mass y1 + 1 < N; omega
    · rw [← lay k0 rfl hb]
      unfold kidzR
      rw [Int.toNat_natCast, take_mk _ _ hls, List.drop_of_length_le (by rw [List.length_append, hls, zs_len]; omega), List.length_append, hls, zs_len]
      simp
  · have hk27 : 2 ≤ y1.kind ∧ y1.kind ≤ 7 := by omega
    obtain ⟨hfit, hat⟩ := rt.data hk27.1 hk27.2
    have sz := size_eq y1
    rw [if_neg k1, if_neg k8, if_neg k9, if_pos hk27] at sz
    have hh := head_eq a l.length y1
    rw [if_neg k0, if_neg k1, if_neg k8, if_neg k9] at hh
    have hb := blk_eq y1 l.length
    rw [if_neg k0, if_neg k1, if_neg k8, if_neg k9] at hb
    have hnl : (numsP y1.kids).length = y1.kids.length := by rw [numsP, List.length_map]
    have hnW : okW (numsP y1.kids) := by
      intro x hx
      obtain ⟨t', ht', rfl⟩ := List.mem_map.1 hx
      have := kid_rng hg ht'
      obtain ⟨k', w', l'⟩ := t'
      rw [rng] at this
      exact getD_word this.2.1 0
    have hpl : (putW (y1.kind - 2) (numsP y1.kids)).length = sizeN y1 := by rw [putW_len, hnl, sz]
    refine ⟨by ((unfold InR; omega)), ?_⟩
    refine loop_rule (ι := Int × List Int) (fun p => head31_0 l a y1 p.1 p.2) (fun p => 0 ≤ p.1 ∧ p.1 ≤ y1.kids.length ∧ p.2 = numsP (y1.kids.take p.1.toNat)) (fun p => ((y1.kids.length : Int) - p.1).toNat) (0, []) rfl ⟨by dsimp only; omega, by dsimp only; omega, rfl⟩ ?_
    rintro ⟨i, m⟩ ⟨g1, g2, g3⟩
    dsimp only at g1 g2 g3
    subst g3
    refine vc31_l0 _ _ _ _ _ _ _ _ ?_
    rintro z1 q1 z2 q2 z3 rfl
    (simp only [vcT, vcS])
    refine ⟨fun hi => ?_, fun hi => ?_⟩
    · have hl : (numsP (y1.kids.take i.toNat)).length ≤ y1.kids.length := by rw [numsP, List.length_map, List.length_take]; omega
      refine ⟨⟨g1, hi⟩, trivial, ?_, by ((unfold InR; omega)), (i + 1, _), rfl, ⟨by dsimp only; omega, by dsimp only; omega, ?_⟩, by dsimp only; omega⟩
      · simp only [List.length_singleton]
        omega
      · dsimp only
        rw [takeI g1 hi, numsP, numsP, List.map_append, q1]
        rfl
    · have e : i = y1.kids.length := by omega
      subst e
      simp only [Int.toNat_natCast, List.take_length] at q2 ⊢
      have ecp : cpL (l ++ zs z2) l.length (putW (y1.kind - 2) (numsP y1.kids)) = l ++ putW (y1.kind - 2) (numsP y1.kids) := by
        have := cpL_mk (X := l) (Y := []) (w := putW (y1.kind - 2) (numsP y1.kids)) (n := z2) rfl (by omega)
        rw [List.append_nil] at this
        rw [this, q2]
        simp [zs]
      rw [ecp, pnt_head, set_left h2, ← hh]
      refine ⟨⟨⟨hnW, by dsimp only; omega⟩, hfit⟩, ⟨by dsimp only; omega, by dsimp only; omega, by dsimp only; omega⟩, ⟨by omega, by rw [List.length_append]; omega⟩, Nat.zero_le _, ⟨⟨by dsimp only; omega, by dsimp only; rw [List.length_append]; omega, by dsimp only; omega, by dsimp only; omega⟩, pntOk2 (by omega) (by omega)⟩, fin ?_⟩
      have : blkP y1 l.length = putW (y1.kind - 2) (numsP y1.kids) := by
        rw [hb]
        unfold putR
        rw [if_pos hfit]
      exact lay k0 rfl this
set_option maxHeartbeats 1000000 in
theorem b57 : HB57 := by
  intro N l at_ t _ hp hN
  obtain ⟨⟨h1, h2, h3⟩, ⟨hm, hg⟩, h10, d, hr, k9⟩ := hp
  dsimp only at h1 h2 h3 hm hg h10 hr k9
  have hN : 4 * mass t + 2 < N + 1 := hN
  obtain ⟨a, rfl⟩ := Int.eq_ofNat_of_zero_le h1
  have h2 : a < l.length := by have : (a : Int) < l.length := h2; omega
  have rt := riT' hr
  have hk := kids_le t
  have hlen := rt.len
  rw [k9] at rt
  have rows := rt.rows
  have hfr := fr_lt fun t ht => (rows t ht).2.2
  have hfit : Fit (frW t.kids) (frK t.kids) t.kids := fun t ht => frW_le ht
  have hfm := fr_mass t.kids
  have sz := size_eq t
  rw [if_neg (by omega), if_neg (by omega), if_pos k9] at sz
  have hh := head_eq a l.length t
  rw [if_neg (by omega), if_neg (by omega), if_neg (by omega), if_pos k9] at hh
  have hb := blk_eq t l.length
  rw [if_neg (by omega), if_neg (by omega), if_neg (by omega), if_pos k9] at hb
  refine vc57 N l a t _ ?_
  rintro y1 rfl y2 e2 y3 e3 y4 e4 y5 e5 y6 e6
  have fz : y1.kids.length = 0 → frW y1.kids = 0 ∧ frK y1.kids = 0 := fun h => by
    rw [List.length_eq_zero_iff.1 h]; exact ⟨rfl, rfl⟩
  generalize hfw : frW y1.kids = fw at *
  generalize hfk : frK y1.kids = fk at *
  obtain ⟨P, hP⟩ : ∃ P, P = y1.kids.length * (fw + fk) := ⟨_, rfl⟩
  have hPI : (y1.kids.length : Int) * ((fw : Int) + fk) = P := by rw [hP, Int.natCast_mul, Int.natCast_add]
  rw [← hP] at sz hh hb
  rw [hPI] at e3 e4 e5
  have hy4 : y4 = 1 + P := by omega
  have hy3 : y3 := by rw [e3]; ((unfold InR; omega))
  -- the tag
  have hok : (eqP (decP (encW y2)) y2 && !decide (y2.kind = 4)) = true ∧ encW y2 = tagP y1.kids.length fw fk ∨ (eqP (decP (encW y2)) y2 && !decide (y2.kind = 4)) = false ∧ 0 = tagP y1.kids.length fw fk ∧ y1.kids.length = 0 ∧ fw = 0 ∧ fk = 0 := by
    have hen : encW y2 = tagP y1.kids.length fw fk := by
      rw [e2]
      unfold encW
      dsimp only
      rw [if_pos rfl, if_pos ⟨by omega, by omega, by omega⟩]
      unfold tagP
      omega
    by_cases hz : y1.kids.length = 0
    · right
      obtain ⟨z1, z2⟩ := fz hz
      subst z1 z2
      rw [e2, hz]
      exact ⟨by decide +kernel, rfl, rfl, rfl, rfl⟩
    · left
      refine ⟨?_, hen⟩
      have hd : decP (encW y2) = y2 := by
        rw [hen, e2]
        have := dec_struct (o := y1.kids.length) (d := fw) (p := fk) (by omega) (by omega) (by omega) (by omega)
        rw [← this]
        congr 1
        unfold tagP
        omega
      rw [hd, eqP_self, e2]
      rfl
  have hB : (l.set a (headP a l.length y1)).length = l.length := by simp
  have hA : (l.set a (headP a l.length y1) ++ [tagP y1.kids.length fw fk]).length = l.length + 1 := by simp
  have hset : ((l ++ zs y4).set l.length (tagP y1.kids.length fw fk)).set a (pntW a l.length y5) = (l.set a (headP a l.length y1) ++ [tagP y1.kids.length fw fk]) ++ zs P := by
    rw [e5, pnt_head, ← hh, hy4, zs_add, List.set_append_right _ _ (Nat.le_refl _), Nat.sub_self, set_left h2]
    simp [zs]
  have loop : LoopWp (A57 N [1, 1, 1, 1, 1, 1, 1, 1, 0, 1, 0, 0]) (head57_0 l a y1 ((l.set a (headP a l.length y1) ++ [tagP y1.kids.length fw fk]) ++ zs P) 0) (AExit.inBlock 0 (S57 N [1, 1, 1, 1, 1, 1, 1, 1, 1] (EndsQL cfg Try.f57.ntmps Try.f57.results.toList (res57 ((l, ()), (a : Int), y1, ())) (resX57 ((l, ()), (a : Int), y1, ())) (resL57 ((l, ()), (a : Int), y1, ()))))) := by
    generalize hAA : l.set a (headP a l.length y1) ++ [tagP y1.kids.length fw fk] = A at *
    refine loop_rule (ι := Int) (fun p => head57_0 l a y1 (rowSt A (zs ((y1.kids.length - p.toNat) * (fw + fk))) fw fk y1.kids p.toNat) p) (fun p => 0 ≤ p ∧ p ≤ y1.kids.length) (fun p => ((y1.kids.length : Int) - p).toNat) 0 (by simp [rowSt, rowsP, hP]) ⟨by omega, by omega⟩ ?_
    rintro i ⟨f1, f2⟩
    refine vc57_l0 _ _ _ _ _ _ _ _ ?_
    rintro z1 rfl z2 q2 z3 rfl z4 q4
    rw [hfw, hfk] at q4 ⊢
    rw [← e2] at q4
    subst q4
    (simp only [vcT, vcS])
    simp only [vcF]
    refine ⟨fun hi => ?_, fun hi => ?_⟩
    · have hmem := mem_getD (l := z1.kids) (i := i.toNat) (by omega) Tree.nil
      obtain ⟨r1, r2, r3, r4⟩ := rows _ hmem
      have hf := hfit _ hmem
      have m1 := kid_mass (t := z1) (i := i.toNat) (by omega)
      have hrg := kid_rng hg hmem
      obtain ⟨s1, s2⟩ := row_str (A := A) hfit (i := i.toNat) (by omega)
      have hst := sizeR_take f1 hi
      have hsl := sizeR_take_le z1.kids (i + 1).toNat
      have hrb := rowsP_blk' fw fk (z1.kids.take i.toNat) A.length (A.length + z1.kids.length * (fw + fk) : Nat) (fun t ht => (rows t (List.mem_of_mem_take ht)).2.1)
      rw [← q2] at r2 hf m1 hrg s1 s2 hst
      have hip : i.toNat * (fw + fk) + (fw + fk) ≤ P := by
        rw [← Nat.succ_mul, hP]
        exact Nat.mul_le_mul_right _ (by omega)
      have hipI : i * ((fw : Int) + fk) = (i.toNat * (fw + fk) : Nat) := by rw [Int.natCast_mul, Int.natCast_add, Int.toNat_of_nonneg f1]
      have hLl : (rowSt A (zs ((z1.kids.length - i.toNat) * (fw + fk))) fw fk z1.kids i.toNat).length = A.length + P + sizeR (z1.kids.take i.toNat) := by
        unfold rowSt
        rw [List.length_append, List.length_append, List.length_append, zs_len, rowsP_len _ _ _ (hfit.take _), hrb, List.length_take, Nat.min_eq_left (by omega), hP]
        have : z1.kids.length * (fw + fk) = i.toNat * (fw + fk) + (z1.kids.length - i.toNat) * (fw + fk) := by rw [← Nat.add_mul]; congr 1; omega
        omega
      rw [hA] at s1 s2 hLl
      rw [hipI, show (l.length : Int) + 1 + ((i.toNat * (fw + fk) : Nat) : Int) = ((l.length + 1 + i.toNat * (fw + fk) : Nat) : Int) by omega, s2]
      refine ⟨⟨f1, hi⟩, by ((unfold InR; omega)), by ((unfold InR; omega)), by ((unfold InR; omega)), ⟨⟨⟨by dsimp only; omega, by dsimp only; omega⟩, ?_, ?_⟩, ⟨?_, hrg⟩, r2⟩, ?_, by ((unfold InR; omega)), i + 1, ?_, ⟨by omega, by omega⟩, by omega⟩
      · dsimp only; rw [hLl]; omega
      · dsimp only; rw [Int.toNat_natCast, Int.toNat_natCast]; exact s1
      · show mass z3 ≤ 1000000; omega
      · show 4 * mass z3 + 2 < N; omega
      · rw [show (i + 1).toNat = i.toNat + 1 by omega]
    · have e : i = z1.kids.length := by omega
      subst e
      have eL : rowSt A (zs ((z1.kids.length - (z1.kids.length : Int).toNat) * (fw + fk))) fw fk z1.kids (z1.kids.length : Int).toNat = layP l a z1 := by
        unfold layP
        rw [if_neg (by omega), Int.toNat_natCast, Int.toNat_natCast, hb, ← List.singleton_append, ← List.append_assoc, hAA]
        unfold rowSt
        rw [List.take_length, hA, ← hP, Nat.sub_self]
        simp [zs]
      rw [eL]
      refine ⟨fun _ => by ((unfold InR; omega)), ?_⟩
      have ebool : (bif (eqP (decP (encW z4)) z4 && !decide (z4.kind = 4)) then true else (((z1.kids.length : Int) + ((fw : Int) + fk)) == 0)) = true := by
        rcases hok with h | ⟨h, _, q1, q2, q3⟩
        · rw [h.1]; rfl
        · rw [h, q1, q2, q3]; rfl
      rw [ebool]
      (repeat' (first | exact trivial | exact rfl | apply And.intro))
  have pre1 : pre32 ((l, ()), 1 + (P : Int), ()) := ⟨by dsimp only; omega, by dsimp only; omega, by dsimp only; omega⟩
  have pre2 : ∀ {L : List Int}, L.length = l.length + y4 → pre55 ((L, ()), (a : Int), (l.length : Int), y5, ()) := by
    intro L hL
    refine ⟨⟨by dsimp only; omega, by dsimp only; omega, by dsimp only; omega, by dsimp only; omega⟩, ?_⟩
    rw [e5]
    exact pntOk2 (by omega) (by omega)
  have hl4 : (l ++ zs y4).length = l.length + y4 := by simp
  rw [hPI, Int.toNat_natCast, Int.toNat_natCast]
  rw [Int.toNat_natCast] at e6
  (simp only [vcT, vcS])
  simp only [vcF]
  refine ⟨hm, by ((unfold InR; omega)), by rw [e2]; exact .inl rfl, fun h => ⟨hy3, by ((unfold InR; omega)), pre1, ⟨by omega, by rw [hl4]; omega⟩, Nat.zero_le _, hy3, pre2 (by rw [List.length_set, hl4]), ?_⟩, fun h => ⟨hy3, by ((unfold InR; omega)), pre1, ⟨by omega, by rw [hl4]; omega⟩, Nat.zero_le _, hy3, pre2 (by rw [e6, List.length_set, hl4]), ?_⟩⟩
  · rcases hok with q | ⟨_, q, _⟩
    · rw [Bool.and_eq_true, Bool.not_eq_true', decide_eq_false_iff_not] at q
      exact absurd (h q.1.1) (by simp [q.1.2])
    · rw [show (l ++ zs y4).set l.length (0 : Int) = (l ++ zs y4).set l.length (tagP y1.kids.length fw fk) by rw [← q], hset]
      exact loop
  · rcases hok with ⟨_, q⟩ | ⟨q, _⟩
    · rw [e6, q, hset]
      exact loop
    · rw [Bool.and_eq_false_imp] at q
      have := q h.1
      simp only [Bool.not_eq_false', decide_eq_true_eq] at this
      exact absurd this h.2
theorem c31_ : Contract Try.prog cfg 31 spec31 ∧ Contract Try.prog cfg 58 spec58 ∧ Contract Try.prog cfg 56 spec56 ∧ Contract Try.prog cfg 57 spec57 := make31_ c32 c55 c59 c1060 c74 c75 b31 b58 b56 b57
theorem c31 : Contract Try.prog cfg 31 spec31 := c31_.1
end Go.AM.Ytcljdbpmjdgooaa

namespace Go.AM.Ytcljdbpmjdgooaa
open Go.AM Go.Proofs
abbrev TrEG3 (p : Prop) : Prop := p → p
noncomputable section
def args22 : ArgM ((Arena × Unit) × Int × Unit) := (.agg (.cons (cAr) .nil) (.cons (aInt .i64) .nil))
def pre22 (a : (Arena × Unit) × Int × Unit) : Prop := OkAr a.1.1
noncomputable def res22 (a : (Arena × Unit) × Int × Unit) : V U := .tup [(true, [.int .i64 (Spot.segment (Spot.mk (if giveOk a.1.1 a.2.1 then giveS a.1.1 a.2.1 else 0) (if giveOk a.1.1 a.2.1 then giveT a.1.1 a.2.1 else 0))), .int .i64 (Spot.at_ (Spot.mk (if giveOk a.1.1 a.2.1 then giveS a.1.1 a.2.1 else 0) (if giveOk a.1.1 a.2.1 then giveT a.1.1 a.2.1 else 0)))]), (false, [.bool (giveOk a.1.1 a.2.1)])]
noncomputable def resX22 (a : (Arena × Unit) × Int × Unit) : List (List (C U)) := []
noncomputable def resL22 (a : (Arena × Unit) × Int × Unit) : List (Tok × LC U) := [(.A, LC.mk (U := U) .arena [giveA a.1.1 a.2.1] 0)]
noncomputable def spec22 : Fs U := (fsXL args22 (fun a => [pre22 a]) res22 resX22 resL22).passing [0]
def args46 : ArgL (Spot × Int × Unit) := (.cons (aEl .spot) (.cons (aInt .i64) .nil))
def pre46 (a : Spot × Int × Unit) : Prop := InR (Spot.at_ a.1 + a.2.1)
noncomputable def res46 (a : Spot × Int × Unit) : V U := .agg [.int .i64 (Spot.segment (Spot.mk (Spot.segment a.1) (Spot.at_ a.1 + a.2.1))), .int .i64 (Spot.at_ (Spot.mk (Spot.segment a.1) (Spot.at_ a.1 + a.2.1)))]
noncomputable def spec46 : Fs U := fs args46 (fun a => [pre46 a]) res46
def args44 : ArgM ((Arena × Unit) × Spot × List Int × Unit) := (.agg (.cons (cAr) .nil) (.cons (aEl .spot) (.cons (aSl .u64) .nil)))
def pre44 (a : (Arena × Unit) × Spot × List Int × Unit) : Prop := (OkAr a.1.1 ∧ okW a.2.2.1) ∧ hasN a.1.1.segs (Spot.segment a.2.1) (Spot.at_ a.2.1) a.2.2.1.length = true
noncomputable def res44 (a : (Arena × Unit) × Spot × List Int × Unit) : V U := .c (.bool true)
noncomputable def resX44 (a : (Arena × Unit) × Spot × List Int × Unit) : List (List (C U)) := []
noncomputable def resL44 (a : (Arena × Unit) × Spot × List Int × Unit) : List (Tok × LC U) := [(.A, LC.mk (U := U) .arena [putsA a.2.2.1 a.1.1 (Spot.segment a.2.1) (Spot.at_ a.2.1)] 0)]
noncomputable def spec44 : Fs U := (fsXL args44 (fun a => [pre44 a]) res44 resX44 resL44).passing [0]
def args3075 : ArgL (Ptr × Unit) := (.cons (aEl .ptr) .nil)
def pre3075 (a : Ptr × Unit) : Prop := ∃ (o s : Int) (d : Bool), a.1 = Ptr.mk 3 o 0 0 0 0 s d ∧ (0 ≤ o ∧ o < 536870912) ∧ 0 ≤ s ∧ s < 4294967296
noncomputable def res3075 (a : Ptr × Unit) : V U := .tup [(false, [.int .u64 (farW (Ptr.double a.1) (Ptr.segment a.1) (Ptr.off a.1))]), (false, [.bool true])]
noncomputable def spec3075 : Fs U := fs args3075 (fun a => [pre3075 a]) res3075
def args78 : ArgM ((Arena × Unit) × Spot × Spot × Bool × Unit) := (.agg (.cons (cAr) .nil) (.cons (aEl .spot) (.cons (aEl .spot) (.cons (aBool) .nil))))
def pre78 (a : (Arena × Unit) × Spot × Spot × Bool × Unit) : Prop := (OkAr a.1.1 ∧ hasN a.1.1.segs (Spot.segment a.2.1) (Spot.at_ a.2.1) 1 = true) ∧ (0 ≤ Spot.at_ a.2.2.1 ∧ Spot.at_ a.2.2.1 < 536870912) ∧ 0 ≤ Spot.segment a.2.2.1 ∧ Spot.segment a.2.2.1 < 4294967296
noncomputable def res78 (a : (Arena × Unit) × Spot × Spot × Bool × Unit) : V U := .c (.bool true)
noncomputable def resX78 (a : (Arena × Unit) × Spot × Spot × Bool × Unit) : List (List (C U)) := []
noncomputable def resL78 (a : (Arena × Unit) × Spot × Spot × Bool × Unit) : List (Tok × LC U) := [(.A, LC.mk (U := U) .arena [putA a.1.1 (Spot.segment a.2.1) (Spot.at_ a.2.1) (farW a.2.2.2.1 (Spot.segment a.2.2.1) (Spot.at_ a.2.2.1))] 0)]
noncomputable def spec78 : Fs U := (fsXL args78 (fun a => [pre78 a]) res78 resX78 resL78).passing [0]
def args76 : ArgM ((Arena × Unit) × Spot × Spot × Ptr × Unit) := (.agg (.cons (cAr) .nil) (.cons (aEl .spot) (.cons (aEl .spot) (.cons (aEl .ptr) .nil))))
def pre76 (a : (Arena × Unit) × Spot × Spot × Ptr × Unit) : Prop := (OkAr a.1.1 ∧ hasN a.1.1.segs (Spot.segment a.2.1) (Spot.at_ a.2.1) 1 = true) ∧ (0 ≤ Spot.at_ a.2.2.1 ∧ Spot.at_ a.2.2.1 ≤ 131072) ∧ pntOk a.2.2.2.1
noncomputable def res76 (a : (Arena × Unit) × Spot × Spot × Ptr × Unit) : V U := .c (.bool true)
noncomputable def resX76 (a : (Arena × Unit) × Spot × Spot × Ptr × Unit) : List (List (C U)) := []
noncomputable def resL76 (a : (Arena × Unit) × Spot × Spot × Ptr × Unit) : List (Tok × LC U) := [(.A, LC.mk (U := U) .arena [putA a.1.1 (Spot.segment a.2.1) (Spot.at_ a.2.1) (pwA (Spot.at_ a.2.1) (Spot.at_ a.2.2.1) (kdP a.2.2.2.1) (upP a.2.2.2.1))] 0)]
noncomputable def spec76 : Fs U := (fsXL args76 (fun a => [pre76 a]) res76 resX76 resL76).passing [0]
def args43 : ArgM ((Arena × Unit) × Spot × Spot × Ptr × Unit) := (.agg (.cons (cAr) .nil) (.cons (aEl .spot) (.cons (aEl .spot) (.cons (aEl .ptr) .nil))))
def pre43 (a : (Arena × Unit) × Spot × Spot × Ptr × Unit) : Prop := (OkAr a.1.1 ∧ hasN a.1.1.segs (Spot.segment a.2.1) (Spot.at_ a.2.1) 1 = true) ∧ (0 ≤ Spot.at_ a.2.2.1 ∧ Spot.at_ a.2.2.1 ≤ 131072) ∧ pntOk a.2.2.2.1 ∧ 0 ≤ Spot.segment a.2.2.1 ∧ Spot.segment a.2.2.1 < a.1.1.segs.length
noncomputable def res43 (a : (Arena × Unit) × Spot × Spot × Ptr × Unit) : V U := .c (.bool ((pointA a.1.1 (Spot.segment a.2.1) (Spot.at_ a.2.1) (Spot.segment a.2.2.1) (Spot.at_ a.2.2.1) (kdP a.2.2.2.1) (upP a.2.2.2.1)).2))
noncomputable def resX43 (a : (Arena × Unit) × Spot × Spot × Ptr × Unit) : List (List (C U)) := []
noncomputable def resL43 (a : (Arena × Unit) × Spot × Spot × Ptr × Unit) : List (Tok × LC U) := [(.A, LC.mk (U := U) .arena [(pointA a.1.1 (Spot.segment a.2.1) (Spot.at_ a.2.1) (Spot.segment a.2.2.1) (Spot.at_ a.2.2.1) (kdP a.2.2.2.1) (upP a.2.2.2.1)).1] 0)]
noncomputable def spec43 : Fs U := (fsXL args43 (fun a => [pre43 a]) res43 resX43 resL43).passing [0]
noncomputable def know22 : List (FuncId × Fs U) := [(40, spec40)]
def lv22 : Lives U := fun i => match i with
  | 0 => ([(0, [.ar]), (1, []), (2, []), (4, [])], [((.loc 2), [.ar]), ((.loc 4), [])])
  | 1 => ([(0, [.ar]), (4, []), (6, []), (7, []), (8, [])], [((.loc 4), [])])
  | 2 => ([(0, [.ar]), (4, []), (5, [])], [((.loc 4), [])])
  | _ => ([], [])
abbrev W22 (a : Arena) (n : Int) (Q : AExit → LSt U → Prop) := awp cfg (know know22) (drawOk cfg (know know22)) Try.f22.ntmps lv22 (cd Try.f22 []) (⟨[(0, .agg [.mref (.A)]), (1, .c (.int .i64 n))], [], [(.A, LC.mk (U := U) .arena ([a]) 0)]⟩ : LSt U) Q
theorem vc22 (a : Arena) (n : Int) (Q : AExit → LSt U → Prop) (h : (pre40 (a, n, ())) ∧ (Q .ret (⟨[(0, .agg [.mref (.A)]), (4, .ptr (.loc 4) 0), (5, .c (.bool (giveOk a n)))], [((.loc 4), [.int .i64 (if giveOk a n then giveS a n else 0), .int .i64 (if giveOk a n then giveT a n else 0)])], [(.A, LC.mk (U := U) .arena ([giveA a n]) 0)]⟩ : LSt U))) :
    W22 a n Q := by
  have e_ : (W22 a n Q) = (((pre40 (a, n, ())) ∧ ((Q .ret (⟨[(0, .agg [.mref (.A)]), (4, .ptr (.loc 4) 0), (5, .c (.bool (giveOk a n)))], [((.loc 4), [.int .i64 (if giveOk a n then giveS a n else 0), .int .i64 (if giveOk a n then giveT a n else 0)])], [(.A, LC.mk (U := U) .arena ([giveA a n]) 0)]⟩ : LSt U))))) := by kernel_rfl
  exact e_.mpr ⟨h.1, h.2⟩
abbrev Body22 (a : Arena) (n : Int)  : Prop := awp cfg (know (know22)) (drawOk cfg (know (know22))) Try.f22.ntmps lv22 (cd Try.f22 []) (entryL (args22.can ((a, ()), n, ())) (args22.canX ((a, ()), n, ())) (args22.canL ((a, ()), n, ()))) (EndsQL cfg Try.f22.ntmps Try.f22.results.toList (res22 ((a, ()), n, ())) (resX22 ((a, ()), n, ())) (resL22 ((a, ()), n, ())))
theorem make22 (c40 : Contract Try.prog cfg 40 spec40) (hb : ∀ (a : Arena) (n : Int) (_ : Unit), pre22 ((a, ()), n, ()) → Body22 a n) : Contract Try.prog cfg 22 spec22 :=
  Contract.passing <| contractXL_flat (l := [(40, spec40)]) cfgOk rfl (⟨c40, trivial⟩) lv22 Try.func22 rfl rfl 2 (fun _ => rfl) (by decide) (fun ⟨⟨a, _⟩, n, _⟩ => hb a n ())
noncomputable def know46 : List (FuncId × Fs U) := []
def lv46 : Lives U := fun i => match i with
  | 0 => ([(1, []), (2, []), (4, [])], [((.loc 2), []), ((.loc 4), [])])
  | 1 => ([(4, [])], [((.loc 4), [])])
  | _ => ([], [])
abbrev W46 (s : Spot) (n : Int) (Q : AExit → LSt U → Prop) := awp cfg (know know46) (drawOk cfg (know know46)) Try.f46.ntmps lv46 (cd Try.f46 []) (⟨[(0, .agg [.int .i64 (Spot.segment s), .int .i64 (Spot.at_ s)]), (1, .c (.int .i64 n))], [], []⟩ : LSt U) Q
theorem vc46 (s : Spot) (n : Int) (Q : AExit → LSt U → Prop) (h : (InR (((Spot.at_ s) : Int) + n)) ∧ (Q .ret (⟨[(4, .ptr (.loc 4) 0)], [((.loc 4), [.int .i64 (Spot.segment s), .int .i64 (((Spot.at_ s) : Int) + n)])], []⟩ : LSt U))) :
    W46 s n Q := by
  have e_ : (W46 s n Q) = (type_of% h) := by kernel_rfl
  exact e_.mpr ⟨h.1, h.2⟩
abbrev Body46 (s : Spot) (n : Int)  : Prop := awp cfg (know (know46)) (drawOk cfg (know (know46))) Try.f46.ntmps lv46 (cd Try.f46 []) (entry (args46.can (s, n, ())) []) (EndsQ cfg Try.f46.ntmps Try.f46.results.toList (res46 (s, n, ())) [])
theorem make46 (hb : ∀ (s : Spot) (n : Int) (_ : Unit), pre46 (s, n, ()) → Body46 s n) : Contract Try.prog cfg 46 spec46 :=
  contract_flat (l := []) cfgOk rfl (trivial) lv46 Try.func46 rfl rfl 2 (fun _ => rfl) (by decide) (fun ⟨s, n, _⟩ => hb s n ())
noncomputable def know44 : List (FuncId × Fs U) := [(79, spec79)]
def lv44 : Lives U := fun i => match i with
  | 0 => ([(0, [.ar]), (2, []), (3, []), (4, [])], [((.loc 3), [.ar]), ((.loc 4), [])])
  | 1 => ([(0, [.ar]), (3, []), (4, []), (9, []), (10, []), (11, [])], [((.loc 3), [.ar]), ((.loc 4), [])])
  | 2 => ([(0, [.ar]), (3, []), (4, []), (9, []), (10, []), (11, []), (12, [])], [((.loc 3), [.ar]), ((.loc 4), [])])
  | 3 => ([(0, [.ar]), (3, []), (4, []), (7, []), (8, []), (9, []), (10, []), (11, [])], [((.loc 3), [.ar]), ((.loc 4), [])])
  | 4 => ([(0, [.ar]), (3, []), (4, []), (9, []), (10, []), (11, []), (26, [])], [((.loc 3), [.ar]), ((.loc 4), [])])
  | 5 => ([(0, [.ar]), (6, [])], [])
  | 6 => ([(0, [.ar]), (3, []), (4, []), (9, []), (10, []), (11, [])], [((.loc 3), [.ar]), ((.loc 4), [])])
  | 7 => ([(0, [.ar]), (6, [])], [])
  | _ => ([], [])
noncomputable def head44_0 (a : Arena) (s : Spot) (l : List Int) (x11 : Int) (rA : Arena) : LSt U := (⟨[(0, .agg [.mref (.A)]), (3, .ptr (.loc 3) 0), (4, .ptr (.loc 4) 0), (9, .c (.slice (U := U) .u64 l .unk)), (10, .c (.int .i64 (l.length : Int))), (11, .c (.int .i64 x11))], [((.loc 3), [.mref (.A)]), ((.loc 4), [.int .i64 (Spot.segment s), .int .i64 (Spot.at_ s)])], [(.A, LC.mk (U := U) .arena ([rA]) 0)]⟩ : LSt U)
abbrev W44 (a : Arena) (s : Spot) (l : List Int) (Q : AExit → LSt U → Prop) := awp cfg (know know44) (drawOk cfg (know know44)) Try.f44.ntmps lv44 (cd Try.f44 []) (⟨[(0, .agg [.mref (.A)]), (1, .agg [.int .i64 (Spot.segment s), .int .i64 (Spot.at_ s)]), (2, .c (.slice (U := U) .u64 l .unk))], [], [(.A, LC.mk (U := U) .arena ([a]) 0)]⟩ : LSt U) Q
abbrev a44_EG3 := awp cfg (know know44) (drawOk cfg (know know44)) Try.f44.ntmps lv44
abbrev s44_EG3 := seqK cfg (know know44) (drawOk cfg (know know44)) Try.f44.ntmps lv44
theorem vc44 (a : Arena) (s : Spot) (l : List Int) (Q : AExit → LSt U → Prop) (h : LoopWp (awp cfg (know know44) (drawOk cfg (know know44)) Try.f44.ntmps lv44 (cd Try.f44 [1, 0, 1, 0, 0])) (head44_0 a s l 0 a) (AExit.inBlock 0 (seqK cfg (know know44) (drawOk cfg (know know44)) Try.f44.ntmps lv44 (cd Try.f44 [1, 1]) Q))) :
    W44 a s l Q := by
  have e_ : (W44 a s l Q) = (((LoopWp (a44_EG3 (cd Try.f44 [1, 0, 1, 0, 0])) (head44_0 a s l 0 a) (AExit.inBlock 0 (s44_EG3 (cd Try.f44 [1, 1]) Q))))) := by kernel_rfl
  exact e_.mpr h
abbrev W44_l0 (a : Arena) (s : Spot) (l : List Int) (x11 : Int) (rA : Arena) (N0 : LSt U → Prop) (Q : AExit → LSt U → Prop) := awp cfg (know know44) (drawOk cfg (know know44)) Try.f44.ntmps lv44 (cd Try.f44 [1, 0, 1, 0, 0]) (head44_0 a s l x11 rA) (AExit.then N0 (AExit.inBlock 0 (seqK cfg (know know44) (drawOk cfg (know know44)) Try.f44.ntmps lv44 (cd Try.f44 [1, 1]) Q)))
theorem vc44_l0 (a : Arena) (s : Spot) (l : List Int) (x11 : Int) (rA : Arena) (N0 : LSt U → Prop) (Q : AExit → LSt U → Prop) (h : ((decide ((x11 : Int) < (l.length : Int))) = true → ((0 : Int) ≤ x11 ∧ x11 < (l.length : Int)) ∧ ((InR (((Spot.at_ s) : Int) + x11)) ∧ (pre79 (rA, (Spot.segment s), (((Spot.at_ s) : Int) + x11), (List.getD l (Int.toNat x11) (0 : Int)), ())) ∧ (((!(hasN rA.segs (Spot.segment s) (((Spot.at_ s) : Int) + x11) 1)) = true → Q .ret (⟨[(0, .agg [.mref (.A)]), (6, .c (.bool false))], [], [(.A, LC.mk (U := U) .arena ([putA rA (Spot.segment s) (((Spot.at_ s) : Int) + x11) (List.getD l (Int.toNat x11) (0 : Int))]) 0)]⟩ : LSt U)) ∧ ((!(hasN rA.segs (Spot.segment s) (((Spot.at_ s) : Int) + x11) 1)) = false → (InR ((x11 : Int) + 1)) ∧ (N0 (head44_0 a s l ((x11 : Int) + 1) (putA rA (Spot.segment s) (((Spot.at_ s) : Int) + x11) (List.getD l (Int.toNat x11) (0 : Int))))))))) ∧ ((decide ((x11 : Int) < (l.length : Int))) = false → Q .ret (⟨[(0, .agg [.mref (.A)]), (6, .c (.bool true))], [], [(.A, LC.mk (U := U) .arena ([rA]) 0)]⟩ : LSt U))) :
    W44_l0 a s l x11 rA N0 Q := by
  have e_ : (W44_l0 a s l x11 rA N0 Q) = (let zz0 := (!(hasN rA.segs (Spot.segment s) (((Spot.at_ s) : Int) + x11) 1)); (((decide ((x11 : Int) < (l.length : Int))) = true → ((0 : Int) ≤ x11 ∧ x11 < (l.length : Int)) ∧ ((InR (((Spot.at_ s) : Int) + x11)) ∧ (pre79 (rA, (Spot.segment s), (((Spot.at_ s) : Int) + x11), (List.getD l (Int.toNat x11) (0 : Int)), ())) ∧ ((zz0 = true → (Q .ret (⟨[(0, .agg [.mref (.A)]), (6, .c (.bool false))], [], [(.A, LC.mk (U := U) .arena ([putA rA (Spot.segment s) (((Spot.at_ s) : Int) + x11) (List.getD l (Int.toNat x11) (0 : Int))]) 0)]⟩ : LSt U))) ∧ (zz0 = false → (InR ((x11 : Int) + 1)) ∧ (N0 (head44_0 a s l ((x11 : Int) + 1) (putA rA (Spot.segment s) (((Spot.at_ s) : Int) + x11) (List.getD l (Int.toNat x11) (0 : Int))))))))) ∧ ((decide ((x11 : Int) < (l.length : Int))) = false → (Q .ret (⟨[(0, .agg [.mref (.A)]), (6, .c (.bool true))], [], [(.A, LC.mk (U := U) .arena ([rA]) 0)]⟩ : LSt U))))) := by kernel_rfl
  exact e_.mpr ⟨fun c_1 => ⟨(h.1 c_1).1, ⟨(h.1 c_1).2.1, (h.1 c_1).2.2.1, ⟨fun c_2 => ((h.1 c_1).2.2.2.1 c_2), fun c_2 => ⟨((h.1 c_1).2.2.2.2 c_2).1, ((h.1 c_1).2.2.2.2 c_2).2⟩⟩⟩⟩, fun c_1 => (h.2 c_1)⟩
abbrev Body44 (a : Arena) (s : Spot) (l : List Int)  : Prop := awp cfg (know (know44)) (drawOk cfg (know (know44))) Try.f44.ntmps lv44 (cd Try.f44 []) (entryL (args44.can ((a, ()), s, l, ())) (args44.canX ((a, ()), s, l, ())) (args44.canL ((a, ()), s, l, ()))) (EndsQL cfg Try.f44.ntmps Try.f44.results.toList (res44 ((a, ()), s, l, ())) (resX44 ((a, ()), s, l, ())) (resL44 ((a, ()), s, l, ())))
theorem make44 (c79 : Contract Try.prog cfg 79 spec79) (hb : ∀ (a : Arena) (s : Spot) (l : List Int) (_ : Unit), pre44 ((a, ()), s, l, ()) → Body44 a s l) : Contract Try.prog cfg 44 spec44 :=
  Contract.passing <| contractXL_flat (l := [(79, spec79)]) cfgOk rfl (⟨c79, trivial⟩) lv44 Try.func44 rfl rfl 3 (fun _ => rfl) (by decide) (fun ⟨⟨a, _⟩, s, l, _⟩ => hb a s l ())
noncomputable def know3075 : List (FuncId × Fs U) := [(98, spec98), (99, spec99), (100, spec100), (101, spec101)]
def lv3075 : Lives U := fun i => match i with
  | 0 => ([(1, [])], [((.loc 1), [])])
  | 1 => ([(1, []), (4, [])], [((.loc 1), [])])
  | 2 => ([(1, []), (4, []), (6, [])], [((.loc 1), [])])
  | 3 => ([(1, []), (4, []), (6, []), (7, [])], [((.loc 1), [])])
  | 4 => ([(1, []), (4, []), (21, []), (49, []), (63, []), (72, []), (84, [])], [((.loc 1), [])])
  | 5 => ([(1, []), (4, []), (21, []), (49, []), (63, []), (72, []), (84, [])], [((.loc 1), [])])
  | 6 => ([(1, []), (4, []), (6, []), (35, [])], [((.loc 1), [])])
  | 7 => ([(1, []), (4, []), (21, []), (49, []), (63, []), (72, []), (84, [])], [((.loc 1), [])])
  | 8 => ([(1, []), (4, []), (21, []), (49, []), (63, []), (72, []), (84, [])], [((.loc 1), [])])
  | 9 => ([(1, []), (4, []), (21, []), (49, []), (63, []), (72, []), (84, [])], [((.loc 1), [])])
  | 10 => ([(1, []), (4, []), (21, []), (49, []), (63, []), (72, []), (84, [])], [((.loc 1), [])])
  | 11 => ([(1, []), (4, [])], [((.loc 1), [])])
  | 12 => ([(1, []), (4, []), (21, []), (49, []), (63, []), (72, []), (84, [])], [((.loc 1), [])])
  | 13 => ([(1, []), (4, []), (21, []), (49, []), (63, []), (72, []), (84, [])], [((.loc 1), [])])
  | 14 => ([(2, []), (3, [])], [])
  | _ => ([], [])
noncomputable def head3075_0 (p : Ptr) (x4 : Int) (v21 : V U) (v49 : V U) (v84 : V U) (v72 : V U) (v63 : V U) : LSt U := (⟨[(1, .ptr (.loc 1) 0), (4, .c (.int .u64 x4)), (21, v21), (49, v49), (63, v63), (72, v72), (84, v84)], [((.loc 1), [.int .i64 (Ptr.kind p), .int .i64 (Ptr.off p), .int .i64 (Ptr.data p), .int .i64 (Ptr.ptrs p), .int .i64 (Ptr.code p), .int .i64 (Ptr.count p), .int .i64 (Ptr.segment p), .bool (Ptr.double p)])], []⟩ : LSt U)
abbrev W3075 (p : Ptr) (Q : AExit → LSt U → Prop) := awp cfg (know know3075) (drawOk cfg (know know3075)) Try.f75.ntmps lv3075 (cd Try.f75 []) (⟨[(0, .agg [.int .i64 (Ptr.kind p), .int .i64 (Ptr.off p), .int .i64 (Ptr.data p), .int .i64 (Ptr.ptrs p), .int .i64 (Ptr.code p), .int .i64 (Ptr.count p), .int .i64 (Ptr.segment p), .bool (Ptr.double p)])], [], []⟩ : LSt U) Q
abbrev a75_EG3 := awp cfg (know know3075) (drawOk cfg (know know3075)) Try.f75.ntmps lv3075
theorem vc3075 (p : Ptr) (Q : AExit → LSt U → Prop) (h : ∀ y_1, y_1 = (IntKind.wrap .u64 (((IntKind.wrap .u64 (Ptr.off p)) : Int) * 2 ^ (min (Int.toNat 3) (IntKind.bits .u64)))) → ∀ y_2, y_2 = (IntKind.wrap .u64 (((IntKind.wrap .u64 (Ptr.segment p)) : Int) * 2 ^ (min (Int.toNat 32) (IntKind.bits .u64)))) → ∀ y_3, y_3 = (.bool (bif (bif (decide (-536870912 ≤ (Ptr.off p) ∧ (Ptr.off p) < 536870912)) then (decide (0 ≤ (Ptr.data p) ∧ (Ptr.data p) ≤ 65535)) else false) then (decide (0 ≤ (Ptr.ptrs p) ∧ (Ptr.ptrs p) ≤ 65535)) else false)) → ∀ y_4, y_4 = (.bool (bif (bif (decide (-536870912 ≤ (Ptr.off p) ∧ (Ptr.off p) < 536870912)) then (decide (0 ≤ (Ptr.code p) ∧ (Ptr.code p) ≤ 7)) else false) then (decide (0 ≤ (Ptr.count p) ∧ (Ptr.count p) ≤ 536870911)) else false)) → ∀ y_5, y_5 = (IntKind.wrap .u64 (BitVec.ofInt (IntKind.bits .u64) y_1 ||| BitVec.ofInt (IntKind.bits .u64) 2).toNat) → ∀ y_6, y_6 = (IntKind.wrap .u64 (BitVec.ofInt (IntKind.bits .u64) y_5 ||| BitVec.ofInt (IntKind.bits .u64) y_2).toNat) → ((((Ptr.kind p) : Int) == 1) = true → (pre98 ((Ptr.off p), ())) ∧ ((decide (-536870912 ≤ (Ptr.off p) ∧ (Ptr.off p) < 536870912)) = true → pre99 ((Ptr.data p), 65535, ())) ∧ ((bif (decide (-536870912 ≤ (Ptr.off p) ∧ (Ptr.off p) < 536870912)) then (decide (0 ≤ (Ptr.data p) ∧ (Ptr.data p) ≤ 65535)) else false) = true → pre99 ((Ptr.ptrs p), 65535, ())) ∧ (((bif (bif (decide (-536870912 ≤ (Ptr.off p) ∧ (Ptr.off p) < 536870912)) then (decide (0 ≤ (Ptr.data p) ∧ (Ptr.data p) ≤ 65535)) else false) then (decide (0 ≤ (Ptr.ptrs p) ∧ (Ptr.ptrs p) ≤ 65535)) else false) = true → (pre100 ((Ptr.off p), 0, ())) ∧ ((0 : Int) ≤ 32) ∧ ((0 : Int) ≤ 48) ∧ (awp cfg (know know3075) (drawOk cfg (know know3075)) Try.f75.ntmps lv3075 (cd Try.f75 [1, 1, 1]) (head3075_0 p (IntKind.wrap .u64 (BitVec.ofInt (IntKind.bits .u64) (IntKind.wrap .u64 (BitVec.ofInt (IntKind.bits .u64) (4 * ((Ptr.off p) % 1073741824) + 0) ||| BitVec.ofInt (IntKind.bits .u64) (IntKind.wrap .u64 (((IntKind.wrap .u64 (Ptr.data p)) : Int) * 2 ^ (min (Int.toNat 32) (IntKind.bits .u64))))).toNat) ||| BitVec.ofInt (IntKind.bits .u64) (IntKind.wrap .u64 (((IntKind.wrap .u64 (Ptr.ptrs p)) : Int) * 2 ^ (min (Int.toNat 48) (IntKind.bits .u64))))).toNat) (.c y_3) .junk .junk .junk .junk) Q)) ∧ ((bif (bif (decide (-536870912 ≤ (Ptr.off p) ∧ (Ptr.off p) < 536870912)) then (decide (0 ≤ (Ptr.data p) ∧ (Ptr.data p) ≤ 65535)) else false) then (decide (0 ≤ (Ptr.ptrs p) ∧ (Ptr.ptrs p) ≤ 65535)) else false) = false → awp cfg (know know3075) (drawOk cfg (know know3075)) Try.f75.ntmps lv3075 (cd Try.f75 [1, 1, 1]) (head3075_0 p 0 (.c y_3) .junk .junk .junk .junk) Q))) ∧ ((((Ptr.kind p) : Int) == 1) = false → ((((Ptr.kind p) : Int) == 2) = true → (pre98 ((Ptr.off p), ())) ∧ ((decide (-536870912 ≤ (Ptr.off p) ∧ (Ptr.off p) < 536870912)) = true → pre99 ((Ptr.code p), 7, ())) ∧ ((bif (decide (-536870912 ≤ (Ptr.off p) ∧ (Ptr.off p) < 536870912)) then (decide (0 ≤ (Ptr.code p) ∧ (Ptr.code p) ≤ 7)) else false) = true → pre99 ((Ptr.count p), 536870911, ())) ∧ (((bif (bif (decide (-536870912 ≤ (Ptr.off p) ∧ (Ptr.off p) < 536870912)) then (decide (0 ≤ (Ptr.code p) ∧ (Ptr.code p) ≤ 7)) else false) then (decide (0 ≤ (Ptr.count p) ∧ (Ptr.count p) ≤ 536870911)) else false) = true → (pre100 ((Ptr.off p), 1, ())) ∧ ((0 : Int) ≤ 32) ∧ ((0 : Int) ≤ 35) ∧ (awp cfg (know know3075) (drawOk cfg (know know3075)) Try.f75.ntmps lv3075 (cd Try.f75 [1, 1, 1]) (head3075_0 p (IntKind.wrap .u64 (BitVec.ofInt (IntKind.bits .u64) (IntKind.wrap .u64 (BitVec.ofInt (IntKind.bits .u64) (4 * ((Ptr.off p) % 1073741824) + 1) ||| BitVec.ofInt (IntKind.bits .u64) (IntKind.wrap .u64 (((IntKind.wrap .u64 (Ptr.code p)) : Int) * 2 ^ (min (Int.toNat 32) (IntKind.bits .u64))))).toNat) ||| BitVec.ofInt (IntKind.bits .u64) (IntKind.wrap .u64 (((IntKind.wrap .u64 (Ptr.count p)) : Int) * 2 ^ (min (Int.toNat 35) (IntKind.bits .u64))))).toNat) .junk (.c y_4) .junk .junk .junk) Q)) ∧ ((bif (bif (decide (-536870912 ≤ (Ptr.off p) ∧ (Ptr.off p) < 536870912)) then (decide (0 ≤ (Ptr.code p) ∧ (Ptr.code p) ≤ 7)) else false) then (decide (0 ≤ (Ptr.count p) ∧ (Ptr.count p) ≤ 536870911)) else false) = false → awp cfg (know know3075) (drawOk cfg (know know3075)) Try.f75.ntmps lv3075 (cd Try.f75 [1, 1, 1]) (head3075_0 p 0 .junk (.c y_4) .junk .junk .junk) Q))) ∧ ((((Ptr.kind p) : Int) == 2) = false → ((((Ptr.kind p) : Int) == 3) = true → (pre99 ((Ptr.off p), 536870911, ())) ∧ ((decide (0 ≤ (Ptr.off p) ∧ (Ptr.off p) ≤ 536870911)) = true → pre99 ((Ptr.segment p), 4294967295, ())) ∧ (((bif (decide (0 ≤ (Ptr.off p) ∧ (Ptr.off p) ≤ 536870911)) then (decide (0 ≤ (Ptr.segment p) ∧ (Ptr.segment p) ≤ 4294967295)) else false) = true → ((0 : Int) ≤ 3) ∧ ((0 : Int) ≤ 32) ∧ (((Ptr.double p) = true → awp cfg (know know3075) (drawOk cfg (know know3075)) Try.f75.ntmps lv3075 (cd Try.f75 [1, 1, 1]) (head3075_0 p (IntKind.wrap .u64 (BitVec.ofInt (IntKind.bits .u64) y_6 ||| BitVec.ofInt (IntKind.bits .u64) 4).toNat) .junk .junk (.c (.bool (Ptr.double p))) .junk .junk) Q) ∧ ((Ptr.double p) = false → awp cfg (know know3075) (drawOk cfg (know know3075)) Try.f75.ntmps lv3075 (cd Try.f75 [1, 1, 1]) (head3075_0 p y_6 .junk .junk (.c (.bool (Ptr.double p))) .junk .junk) Q))) ∧ ((bif (decide (0 ≤ (Ptr.off p) ∧ (Ptr.off p) ≤ 536870911)) then (decide (0 ≤ (Ptr.segment p) ∧ (Ptr.segment p) ≤ 4294967295)) else false) = false → awp cfg (know know3075) (drawOk cfg (know know3075)) Try.f75.ntmps lv3075 (cd Try.f75 [1, 1, 1]) (head3075_0 p 0 .junk .junk .junk (.c (.bool (bif (decide (0 ≤ (Ptr.off p) ∧ (Ptr.off p) ≤ 536870911)) then (decide (0 ≤ (Ptr.segment p) ∧ (Ptr.segment p) ≤ 4294967295)) else false))) (.c (.bool (((Ptr.kind p) : Int) == 3)))) Q))) ∧ ((((Ptr.kind p) : Int) == 3) = false → awp cfg (know know3075) (drawOk cfg (know know3075)) Try.f75.ntmps lv3075 (cd Try.f75 [1, 1, 1]) (head3075_0 p 0 .junk .junk .junk .junk (.c (.bool (((Ptr.kind p) : Int) == 3)))) Q)))) :
    W3075 p Q := by
  have e_ : (W3075 p Q) = (let y_1 := (IntKind.wrap .u64 (((IntKind.wrap .u64 (Ptr.off p)) : Int) * 2 ^ (min (Int.toNat 3) (IntKind.bits .u64)))); let y_2 := (IntKind.wrap .u64 (((IntKind.wrap .u64 (Ptr.segment p)) : Int) * 2 ^ (min (Int.toNat 32) (IntKind.bits .u64)))); let y_3 := (.bool (bif (bif (decide (-536870912 ≤ (Ptr.off p) ∧ (Ptr.off p) < 536870912)) then (decide (0 ≤ (Ptr.data p) ∧ (Ptr.data p) ≤ 65535)) else false) then (decide (0 ≤ (Ptr.ptrs p) ∧ (Ptr.ptrs p) ≤ 65535)) else false)); let y_4 := (.bool (bif (bif (decide (-536870912 ≤ (Ptr.off p) ∧ (Ptr.off p) < 536870912)) then (decide (0 ≤ (Ptr.code p) ∧ (Ptr.code p) ≤ 7)) else false) then (decide (0 ≤ (Ptr.count p) ∧ (Ptr.count p) ≤ 536870911)) else false)); let y_5 := (IntKind.wrap .u64 (BitVec.ofInt (IntKind.bits .u64) y_1 ||| BitVec.ofInt (IntKind.bits .u64) 2).toNat); let y_6 := (IntKind.wrap .u64 (BitVec.ofInt (IntKind.bits .u64) y_5 ||| BitVec.ofInt (IntKind.bits .u64) y_2).toNat); let zz6 := (decide (0 ≤ (Ptr.count p) ∧ (Ptr.count p) ≤ 536870911)); let zz5 := (((Ptr.kind p) : Int) == 3); let zz4 := (decide (0 ≤ (Ptr.segment p) ∧ (Ptr.segment p) ≤ 4294967295)); let zz3 := (decide (0 ≤ (Ptr.code p) ∧ (Ptr.code p) ≤ 7)); let zz2 := (decide (0 ≤ (Ptr.data p) ∧ (Ptr.data p) ≤ 65535)); let zz1 := (decide (0 ≤ (Ptr.off p) ∧ (Ptr.off p) ≤ 536870911)); let zz0 := (decide (-536870912 ≤ (Ptr.off p) ∧ (Ptr.off p) < 536870912)); ((((((((Ptr.kind p) : Int) == 1) = true → (pre98 ((Ptr.off p), ())) ∧ (TrEG3 (zz0 = true)) ∧ (TrEG3 (zz0 = true)) ∧ (zz0 = true → pre99 ((Ptr.data p), 65535, ())) ∧ ((TrEG3 (zz0 = true))) ∧ (TrEG3 ((bif zz0 then zz2 else false) = true)) ∧ (TrEG3 ((bif zz0 then zz2 else false) = true)) ∧ ((bif zz0 then zz2 else false) = true → pre99 ((Ptr.ptrs p), 65535, ())) ∧ ((TrEG3 ((bif zz0 then zz2 else false) = true))) ∧ (((bif (bif zz0 then zz2 else false) then (decide (0 ≤ (Ptr.ptrs p) ∧ (Ptr.ptrs p) ≤ 65535)) else false) = true → (pre100 ((Ptr.off p), 0, ())) ∧ ((0 : Int) ≤ 32) ∧ ((0 : Int) ≤ 48) ∧ (a75_EG3 (cd Try.f75 [1, 1, 1]) (head3075_0 p (IntKind.wrap .u64 (BitVec.ofInt (IntKind.bits .u64) (IntKind.wrap .u64 (BitVec.ofInt (IntKind.bits .u64) (4 * ((Ptr.off p) % 1073741824) + 0) ||| BitVec.ofInt (IntKind.bits .u64) (IntKind.wrap .u64 (((IntKind.wrap .u64 (Ptr.data p)) : Int) * 2 ^ (min (Int.toNat 32) (IntKind.bits .u64))))).toNat) ||| BitVec.ofInt (IntKind.bits .u64) (IntKind.wrap .u64 (((IntKind.wrap .u64 (Ptr.ptrs p)) : Int) * 2 ^ (min (Int.toNat 48) (IntKind.bits .u64))))).toNat) (.c y_3) .junk .junk .junk .junk) Q)) ∧ ((bif (bif zz0 then zz2 else false) then (decide (0 ≤ (Ptr.ptrs p) ∧ (Ptr.ptrs p) ≤ 65535)) else false) = false → a75_EG3 (cd Try.f75 [1, 1, 1]) (head3075_0 p 0 (.c y_3) .junk .junk .junk .junk) Q))) ∧ ((((Ptr.kind p) : Int) == 1) = false → (((((Ptr.kind p) : Int) == 2) = true → (pre98 ((Ptr.off p), ())) ∧ (TrEG3 (zz0 = true)) ∧ (TrEG3 (zz0 = true)) ∧ (zz0 = true → pre99 ((Ptr.code p), 7, ())) ∧ ((TrEG3 (zz0 = true))) ∧ (TrEG3 ((bif zz0 then zz3 else false) = true)) ∧ (TrEG3 ((bif zz0 then zz3 else false) = true)) ∧ ((bif zz0 then zz3 else false) = true → pre99 ((Ptr.count p), 536870911, ())) ∧ ((TrEG3 ((bif zz0 then zz3 else false) = true))) ∧ (((bif (bif zz0 then zz3 else false) then zz6 else false) = true → (pre100 ((Ptr.off p), 1, ())) ∧ ((0 : Int) ≤ 32) ∧ ((0 : Int) ≤ 35) ∧ (a75_EG3 (cd Try.f75 [1, 1, 1]) (head3075_0 p (IntKind.wrap .u64 (BitVec.ofInt (IntKind.bits .u64) (IntKind.wrap .u64 (BitVec.ofInt (IntKind.bits .u64) (4 * ((Ptr.off p) % 1073741824) + 1) ||| BitVec.ofInt (IntKind.bits .u64) (IntKind.wrap .u64 (((IntKind.wrap .u64 (Ptr.code p)) : Int) * 2 ^ (min (Int.toNat 32) (IntKind.bits .u64))))).toNat) ||| BitVec.ofInt (IntKind.bits .u64) (IntKind.wrap .u64 (((IntKind.wrap .u64 (Ptr.count p)) : Int) * 2 ^ (min (Int.toNat 35) (IntKind.bits .u64))))).toNat) .junk (.c y_4) .junk .junk .junk) Q)) ∧ ((bif (bif zz0 then zz3 else false) then zz6 else false) = false → a75_EG3 (cd Try.f75 [1, 1, 1]) (head3075_0 p 0 .junk (.c y_4) .junk .junk .junk) Q))) ∧ ((((Ptr.kind p) : Int) == 2) = false → ((zz5 = true → (pre99 ((Ptr.off p), 536870911, ())) ∧ (TrEG3 (zz1 = true)) ∧ (TrEG3 (zz1 = true)) ∧ (zz1 = true → pre99 ((Ptr.segment p), 4294967295, ())) ∧ ((TrEG3 (zz1 = true))) ∧ (((bif zz1 then zz4 else false) = true → ((0 : Int) ≤ 3) ∧ ((0 : Int) ≤ 32) ∧ ((((Ptr.double p) = true → (a75_EG3 (cd Try.f75 [1, 1, 1]) (head3075_0 p (IntKind.wrap .u64 (BitVec.ofInt (IntKind.bits .u64) y_6 ||| BitVec.ofInt (IntKind.bits .u64) 4).toNat) .junk .junk (.c (.bool (Ptr.double p))) .junk .junk) Q)) ∧ ((Ptr.double p) = false → a75_EG3 (cd Try.f75 [1, 1, 1]) (head3075_0 p y_6 .junk .junk (.c (.bool (Ptr.double p))) .junk .junk) Q)))) ∧ ((bif zz1 then zz4 else false) = false → a75_EG3 (cd Try.f75 [1, 1, 1]) (head3075_0 p 0 .junk .junk .junk (.c (.bool (bif zz1 then zz4 else false))) (.c (.bool zz5))) Q))) ∧ (zz5 = false → a75_EG3 (cd Try.f75 [1, 1, 1]) (head3075_0 p 0 .junk .junk .junk .junk (.c (.bool zz5))) Q)))))))))) := by kernel_rfl
  exact e_.mpr (by intro y_1 y_2 y_3 y_4 y_5 y_6; have hh := h y_1 rfl y_2 rfl y_3 rfl y_4 rfl y_5 rfl y_6 rfl; exact ⟨fun c_3 => ⟨(hh.1 c_3).1, id, id, (hh.1 c_3).2.1, (by generalize (decide (-536870912 ≤ (Ptr.off p) ∧ (Ptr.off p) < 536870912)) = b0; revert b0; decide), id, id, (hh.1 c_3).2.2.1, (by generalize (decide (-536870912 ≤ (Ptr.off p) ∧ (Ptr.off p) < 536870912)) = b0; generalize (decide (0 ≤ (Ptr.data p) ∧ (Ptr.data p) ≤ 65535)) = b1; revert b0 b1; decide), ⟨fun c_4 => ⟨((hh.1 c_3).2.2.2.1 c_4).1, ((hh.1 c_3).2.2.2.1 c_4).2.1, ((hh.1 c_3).2.2.2.1 c_4).2.2.1, ((hh.1 c_3).2.2.2.1 c_4).2.2.2⟩, fun c_4 => ((hh.1 c_3).2.2.2.2 c_4)⟩⟩, fun c_3 => ⟨fun c_5 => ⟨((hh.2 c_3).1 c_5).1, id, id, ((hh.2 c_3).1 c_5).2.1, (by generalize (decide (-536870912 ≤ (Ptr.off p) ∧ (Ptr.off p) < 536870912)) = b0; revert b0; decide), id, id, ((hh.2 c_3).1 c_5).2.2.1, (by generalize (decide (-536870912 ≤ (Ptr.off p) ∧ (Ptr.off p) < 536870912)) = b0; generalize (decide (0 ≤ (Ptr.code p) ∧ (Ptr.code p) ≤ 7)) = b1; revert b0 b1; decide), ⟨fun c_6 => ⟨(((hh.2 c_3).1 c_5).2.2.2.1 c_6).1, (((hh.2 c_3).1 c_5).2.2.2.1 c_6).2.1, (((hh.2 c_3).1 c_5).2.2.2.1 c_6).2.2.1, (((hh.2 c_3).1 c_5).2.2.2.1 c_6).2.2.2⟩, fun c_6 => (((hh.2 c_3).1 c_5).2.2.2.2 c_6)⟩⟩, fun c_5 => ⟨fun c_7 => ⟨(((hh.2 c_3).2 c_5).1 c_7).1, id, id, (((hh.2 c_3).2 c_5).1 c_7).2.1, (by generalize (decide (0 ≤ (Ptr.off p) ∧ (Ptr.off p) ≤ 536870911)) = b0; revert b0; decide), ⟨fun c_8 => ⟨((((hh.2 c_3).2 c_5).1 c_7).2.2.1 c_8).1, ((((hh.2 c_3).2 c_5).1 c_7).2.2.1 c_8).2.1, ⟨fun c_9 => (((((hh.2 c_3).2 c_5).1 c_7).2.2.1 c_8).2.2.1 c_9), fun c_9 => (((((hh.2 c_3).2 c_5).1 c_7).2.2.1 c_8).2.2.2 c_9)⟩⟩, fun c_8 => ((((hh.2 c_3).2 c_5).1 c_7).2.2.2 c_8)⟩⟩, fun c_7 => (((hh.2 c_3).2 c_5).2 c_7)⟩⟩⟩)
abbrev W3075_c0 (p : Ptr) (x4 : Int) (v21 : V U) (v49 : V U) (v84 : V U) (v72 : V U) (v63 : V U) (Q : AExit → LSt U → Prop) := awp cfg (know know3075) (drawOk cfg (know know3075)) Try.f75.ntmps lv3075 (cd Try.f75 [1, 1, 1]) (head3075_0 p x4 v21 v49 v84 v72 v63) Q
theorem vc3075_c0 (p : Ptr) (x4 : Int) (v21 : V U) (v49 : V U) (v84 : V U) (v72 : V U) (v63 : V U) (Q : AExit → LSt U → Prop) (h : (pre101 (x4, ())) ∧ (Q .ret (⟨[(2, .c (.int .u64 x4)), (3, .c (.bool (bif ((((Ptr.kind (decP x4)) : Int) == (Ptr.kind p)) && ((((Ptr.off (decP x4)) : Int) == (Ptr.off p)) && ((((Ptr.data (decP x4)) : Int) == (Ptr.data p)) && ((((Ptr.ptrs (decP x4)) : Int) == (Ptr.ptrs p)) && ((((Ptr.code (decP x4)) : Int) == (Ptr.code p)) && ((((Ptr.count (decP x4)) : Int) == (Ptr.count p)) && ((((Ptr.segment (decP x4)) : Int) == (Ptr.segment p)) && (((Ptr.double (decP x4)) == (Ptr.double p)) && true)))))))) then (((Ptr.kind p) : Int) != 4) else false)))], [], []⟩ : LSt U))) :
    W3075_c0 p x4 v21 v49 v84 v72 v63 Q := by
  have e_ : (W3075_c0 p x4 v21 v49 v84 v72 v63 Q) = (let zz7 := ((Ptr.double (decP x4)) == (Ptr.double p)); let zz6 := (((Ptr.off (decP x4)) : Int) == (Ptr.off p)); let zz5 := (((Ptr.code (decP x4)) : Int) == (Ptr.code p)); let zz4 := (((Ptr.ptrs (decP x4)) : Int) == (Ptr.ptrs p)); let zz3 := (((Ptr.data (decP x4)) : Int) == (Ptr.data p)); let zz2 := (((Ptr.kind (decP x4)) : Int) == (Ptr.kind p)); let zz1 := (((Ptr.count (decP x4)) : Int) == (Ptr.count p)); let zz0 := (((Ptr.segment (decP x4)) : Int) == (Ptr.segment p)); (pre101 (x4, ())) ∧ (TrEG3 ((zz2 && (zz6 && (zz3 && (zz4 && (zz5 && (zz1 && (zz0 && (zz7 && true)))))))) = true)) ∧ (TrEG3 ((zz2 && (zz6 && (zz3 && (zz4 && (zz5 && (zz1 && (zz0 && (zz7 && true)))))))) = true)) ∧ ((TrEG3 ((zz2 && (zz6 && (zz3 && (zz4 && (zz5 && (zz1 && (zz0 && (zz7 && true)))))))) = true))) ∧ (Q .ret (⟨[(2, .c (.int .u64 x4)), (3, .c (.bool (bif (zz2 && (zz6 && (zz3 && (zz4 && (zz5 && (zz1 && (zz0 && (zz7 && true)))))))) then (((Ptr.kind p) : Int) != 4) else false)))], [], []⟩ : LSt U))) := by kernel_rfl
  exact e_.mpr ⟨h.1, id, id, (by generalize (((Ptr.segment (decP x4)) : Int) == (Ptr.segment p)) = b0; generalize (((Ptr.count (decP x4)) : Int) == (Ptr.count p)) = b1; generalize (((Ptr.ptrs (decP x4)) : Int) == (Ptr.ptrs p)) = b2; generalize (((Ptr.kind (decP x4)) : Int) == (Ptr.kind p)) = b3; generalize (((Ptr.code (decP x4)) : Int) == (Ptr.code p)) = b4; generalize (((Ptr.data (decP x4)) : Int) == (Ptr.data p)) = b5; generalize (((Ptr.off (decP x4)) : Int) == (Ptr.off p)) = b6; generalize ((Ptr.double (decP x4)) == (Ptr.double p)) = b7; revert b0 b1 b2 b3 b4 b5 b6 b7; decide), h.2⟩
abbrev Body3075 (p : Ptr)  : Prop := awp cfg (know (know3075)) (drawOk cfg (know (know3075))) Try.f75.ntmps lv3075 (cd Try.f75 []) (entry (args3075.can (p, ())) []) (EndsQ cfg Try.f75.ntmps Try.f75.results.toList (res3075 (p, ())) [])
theorem make3075 (c98 : Contract Try.prog cfg 98 spec98) (c99 : Contract Try.prog cfg 99 spec99) (c100 : Contract Try.prog cfg 100 spec100) (c101 : Contract Try.prog cfg 101 spec101) (hb : ∀ (p : Ptr) (_ : Unit), pre3075 (p, ()) → Body3075 p) : Contract Try.prog cfg 75 spec3075 :=
  contract_flat (l := [(98, spec98), (99, spec99), (100, spec100), (101, spec101)]) cfgOk rfl (⟨c98, c99, c100, c101, trivial⟩) lv3075 Try.func75 rfl rfl 1 (fun _ => rfl) (by decide) (fun ⟨p, _⟩ => hb p ())
noncomputable def know78 : List (FuncId × Fs U) := [(75, spec3075), (44, spec44)]
def lv78 : Lives U := fun i => match i with
  | 0 => ([(0, [.ar]), (3, []), (4, []), (5, []), (6, [])], [((.loc 4), [.ar]), ((.loc 5), []), ((.loc 6), [])])
  | 1 => ([(0, [.ar]), (4, []), (5, []), (9, []), (10, [])], [((.loc 4), [.ar]), ((.loc 5), [])])
  | 2 => ([(0, [.ar]), (8, [])], [])
  | _ => ([], [])
abbrev W78 (a : Arena) (fr : Spot) (to : Spot) (double : Bool) (Q : AExit → LSt U → Prop) := awp cfg (know know78) (drawOk cfg (know know78)) Try.f78.ntmps lv78 (cd Try.f78 []) (⟨[(0, .agg [.mref (.A)]), (1, .agg [.int .i64 (Spot.segment fr), .int .i64 (Spot.at_ fr)]), (2, .agg [.int .i64 (Spot.segment to), .int .i64 (Spot.at_ to)]), (3, .c (.bool double))], [], [(.A, LC.mk (U := U) .arena ([a]) 0)]⟩ : LSt U) Q
theorem vc78 (a : Arena) (fr : Spot) (to : Spot) (double : Bool) (Q : AExit → LSt U → Prop) (h : (pre3075 ((Ptr.mk 3 (Spot.at_ to) 0 0 0 0 (Spot.segment to) double), ())) ∧ (((true) = true → pre44 ((a, ()), (Spot.mk (Spot.segment fr) (Spot.at_ fr)), ([farW (Ptr.double (Ptr.mk 3 (Spot.at_ to) 0 0 0 0 (Spot.segment to) double)) (Ptr.segment (Ptr.mk 3 (Spot.at_ to) 0 0 0 0 (Spot.segment to) double)) (Ptr.off (Ptr.mk 3 (Spot.at_ to) 0 0 0 0 (Spot.segment to) double))]), ())) ∧ (Q .ret (⟨[(0, .agg [.mref (.A)]), (8, .c (.bool true))], [], [(.A, LC.mk (U := U) .arena ([bif true then (putsA ([farW (Ptr.double (Ptr.mk 3 (Spot.at_ to) 0 0 0 0 (Spot.segment to) double)) (Ptr.segment (Ptr.mk 3 (Spot.at_ to) 0 0 0 0 (Spot.segment to) double)) (Ptr.off (Ptr.mk 3 (Spot.at_ to) 0 0 0 0 (Spot.segment to) double))]) a (Spot.segment (Spot.mk (Spot.segment fr) (Spot.at_ fr))) (Spot.at_ (Spot.mk (Spot.segment fr) (Spot.at_ fr)))) else a]) 0)]⟩ : LSt U)))) :
    W78 a fr to double Q := by
  have e_ : (W78 a fr to double Q) = (((pre3075 ((Ptr.mk 3 (Spot.at_ to) 0 0 0 0 (Spot.segment to) double), ())) ∧ (((true) = true → (true) = true) ∧ ((true) = true → (true) = true) ∧ ((true) = true → (true) = true) ∧ ((true) = true → (true) = true) ∧ ((true) = true → pre44 ((a, ()), (Spot.mk (Spot.segment fr) (Spot.at_ fr)), ([farW (Ptr.double (Ptr.mk 3 (Spot.at_ to) 0 0 0 0 (Spot.segment to) double)) (Ptr.segment (Ptr.mk 3 (Spot.at_ to) 0 0 0 0 (Spot.segment to) double)) (Ptr.off (Ptr.mk 3 (Spot.at_ to) 0 0 0 0 (Spot.segment to) double))]), ())) ∧ (((true) = true → (true) = true)) ∧ (Q .ret (⟨[(0, .agg [.mref (.A)]), (8, .c (.bool true))], [], [(.A, LC.mk (U := U) .arena ([bif true then (putsA ([farW (Ptr.double (Ptr.mk 3 (Spot.at_ to) 0 0 0 0 (Spot.segment to) double)) (Ptr.segment (Ptr.mk 3 (Spot.at_ to) 0 0 0 0 (Spot.segment to) double)) (Ptr.off (Ptr.mk 3 (Spot.at_ to) 0 0 0 0 (Spot.segment to) double))]) a (Spot.segment (Spot.mk (Spot.segment fr) (Spot.at_ fr))) (Spot.at_ (Spot.mk (Spot.segment fr) (Spot.at_ fr)))) else a]) 0)]⟩ : LSt U))))) := by kernel_rfl
  exact e_.mpr ⟨h.1, ⟨id, id, id, id, h.2.1, (by decide), h.2.2⟩⟩
abbrev Body78 (a : Arena) (fr : Spot) (to : Spot) (double : Bool)  : Prop := awp cfg (know (know78)) (drawOk cfg (know (know78))) Try.f78.ntmps lv78 (cd Try.f78 []) (entryL (args78.can ((a, ()), fr, to, double, ())) (args78.canX ((a, ()), fr, to, double, ())) (args78.canL ((a, ()), fr, to, double, ()))) (EndsQL cfg Try.f78.ntmps Try.f78.results.toList (res78 ((a, ()), fr, to, double, ())) (resX78 ((a, ()), fr, to, double, ())) (resL78 ((a, ()), fr, to, double, ())))
theorem make78 (c3075 : Contract Try.prog cfg 75 spec3075) (c44 : Contract Try.prog cfg 44 spec44) (hb : ∀ (a : Arena) (fr : Spot) (to : Spot) (double : Bool) (_ : Unit), pre78 ((a, ()), fr, to, double, ()) → Body78 a fr to double) : Contract Try.prog cfg 78 spec78 :=
  Contract.passing <| contractXL_flat (l := [(75, spec3075), (44, spec44)]) cfgOk rfl (⟨c3075, c44, trivial⟩) lv78 Try.func78 rfl rfl 4 (fun _ => rfl) (by decide) (fun ⟨⟨a, _⟩, fr, to, double, _⟩ => hb a fr to double ())
noncomputable def know76 : List (FuncId × Fs U) := [(75, spec75), (44, spec44)]
def lv76 : Lives U := fun i => match i with
  | 0 => ([(0, [.ar]), (4, []), (5, []), (6, []), (7, [])], [((.loc 4), [.ar]), ((.loc 5), []), ((.loc 6), []), ((.loc 7), [])])
  | 1 => ([(0, [.ar]), (4, []), (5, []), (7, [])], [((.loc 4), [.ar]), ((.loc 5), []), ((.loc 7), [])])
  | 2 => ([(0, [.ar]), (4, []), (5, []), (7, []), (28, [])], [((.loc 4), [.ar]), ((.loc 5), []), ((.loc 7), [])])
  | 3 => ([(0, [.ar]), (4, []), (5, []), (7, [])], [((.loc 4), [.ar]), ((.loc 5), []), ((.loc 7), [])])
  | 4 => ([(0, [.ar]), (4, []), (5, []), (9, []), (10, [])], [((.loc 4), [.ar]), ((.loc 5), [])])
  | 5 => ([(0, [.ar]), (8, [])], [])
  | _ => ([], [])
abbrev W76 (a : Arena) (fr : Spot) (to : Spot) (p : Ptr) (Q : AExit → LSt U → Prop) := awp cfg (know know76) (drawOk cfg (know know76)) Try.f76.ntmps lv76 (cd Try.f76 []) (⟨[(0, .agg [.mref (.A)]), (1, .agg [.int .i64 (Spot.segment fr), .int .i64 (Spot.at_ fr)]), (2, .agg [.int .i64 (Spot.segment to), .int .i64 (Spot.at_ to)]), (3, .agg [.int .i64 (Ptr.kind p), .int .i64 (Ptr.off p), .int .i64 (Ptr.data p), .int .i64 (Ptr.ptrs p), .int .i64 (Ptr.code p), .int .i64 (Ptr.count p), .int .i64 (Ptr.segment p), .bool (Ptr.double p)])], [], [(.A, LC.mk (U := U) .arena ([a]) 0)]⟩ : LSt U) Q
theorem vc76 (a : Arena) (fr : Spot) (to : Spot) (p : Ptr) (Q : AExit → LSt U → Prop) (h : ∀ y_1, y_1 = (fr) → ∀ y_2, y_2 = (Ptr.mk (Ptr.kind p) (-1) (Ptr.data p) (Ptr.ptrs p) (Ptr.code p) (Ptr.count p) (Ptr.segment p) (Ptr.double p)) → ∀ y_3, y_3 = (Ptr.mk (Ptr.kind p) (((((Spot.at_ to) : Int) - (Spot.at_ fr)) : Int) - 1) (Ptr.data p) (Ptr.ptrs p) (Ptr.code p) (Ptr.count p) (Ptr.segment p) (Ptr.double p)) → (InR (((Spot.at_ to) : Int) - (Spot.at_ fr))) ∧ (InR (((((Spot.at_ to) : Int) - (Spot.at_ fr)) : Int) - 1)) ∧ (((((Ptr.kind p) : Int) == 1) = true → InR (((Ptr.data p) : Int) + (Ptr.ptrs p))) ∧ (((bif (((Ptr.kind p) : Int) == 1) then (((((Ptr.data p) : Int) + (Ptr.ptrs p)) : Int) == 0) else false) = true → (pre75 (y_2, ())) ∧ (((eqP (decP (encW y_2)) y_2 && !decide (Ptr.kind y_2 = 4)) = true → pre44 ((a, ()), y_1, ([encW y_2]), ())) ∧ (Q .ret (⟨[(0, .agg [.mref (.A)]), (8, .c (.bool (bif (eqP (decP (encW y_2)) y_2 && !decide (Ptr.kind y_2 = 4)) then true else false)))], [], [(.A, LC.mk (U := U) .arena ([bif (eqP (decP (encW y_2)) y_2 && !decide (Ptr.kind y_2 = 4)) then (putsA ([encW y_2]) a (Spot.segment y_1) (Spot.at_ y_1)) else a]) 0)]⟩ : LSt U)))) ∧ ((bif (((Ptr.kind p) : Int) == 1) then (((((Ptr.data p) : Int) + (Ptr.ptrs p)) : Int) == 0) else false) = false → (pre75 (y_3, ())) ∧ (((eqP (decP (encW y_3)) y_3 && !decide (Ptr.kind y_3 = 4)) = true → pre44 ((a, ()), y_1, ([encW y_3]), ())) ∧ (Q .ret (⟨[(0, .agg [.mref (.A)]), (8, .c (.bool (bif (eqP (decP (encW y_3)) y_3 && !decide (Ptr.kind y_3 = 4)) then true else false)))], [], [(.A, LC.mk (U := U) .arena ([bif (eqP (decP (encW y_3)) y_3 && !decide (Ptr.kind y_3 = 4)) then (putsA ([encW y_3]) a (Spot.segment y_1) (Spot.at_ y_1)) else a]) 0)]⟩ : LSt U))))))) :
    W76 a fr to p Q := by
  have e_ : (W76 a fr to p Q) = (let y_1 := (reSpot fr); let y_2 := (Ptr.mk (Ptr.kind p) (-1) (Ptr.data p) (Ptr.ptrs p) (Ptr.code p) (Ptr.count p) (Ptr.segment p) (Ptr.double p)); let y_3 := (Ptr.mk (Ptr.kind p) (((((Spot.at_ to) : Int) - (Spot.at_ fr)) : Int) - 1) (Ptr.data p) (Ptr.ptrs p) (Ptr.code p) (Ptr.count p) (Ptr.segment p) (Ptr.double p)); let zz0 := (((Ptr.kind p) : Int) == 1); ((InR (((Spot.at_ to) : Int) - (Spot.at_ fr))) ∧ (InR (((((Spot.at_ to) : Int) - (Spot.at_ fr)) : Int) - 1)) ∧ ((TrEG3 (zz0 = true)) ∧ (TrEG3 (zz0 = true)) ∧ (TrEG3 (zz0 = true)) ∧ (TrEG3 (zz0 = true)) ∧ (zz0 = true → InR (((Ptr.data p) : Int) + (Ptr.ptrs p))) ∧ (TrEG3 (zz0 = true)) ∧ ((TrEG3 (zz0 = true))) ∧ (((bif zz0 then (((((Ptr.data p) : Int) + (Ptr.ptrs p)) : Int) == 0) else false) = true → ((pre75 (y_2, ())) ∧ ((TrEG3 ((eqP (decP (encW y_2)) y_2 && !decide (Ptr.kind y_2 = 4)) = true)) ∧ (TrEG3 ((eqP (decP (encW y_2)) y_2 && !decide (Ptr.kind y_2 = 4)) = true)) ∧ (TrEG3 ((eqP (decP (encW y_2)) y_2 && !decide (Ptr.kind y_2 = 4)) = true)) ∧ (TrEG3 ((eqP (decP (encW y_2)) y_2 && !decide (Ptr.kind y_2 = 4)) = true)) ∧ ((eqP (decP (encW y_2)) y_2 && !decide (Ptr.kind y_2 = 4)) = true → pre44 ((a, ()), y_1, ([encW y_2]), ())) ∧ ((TrEG3 ((eqP (decP (encW y_2)) y_2 && !decide (Ptr.kind y_2 = 4)) = true))) ∧ (Q .ret (⟨[(0, .agg [.mref (.A)]), (8, .c (.bool (bif (eqP (decP (encW y_2)) y_2 && !decide (Ptr.kind y_2 = 4)) then true else false)))], [], [(.A, LC.mk (U := U) .arena ([bif (eqP (decP (encW y_2)) y_2 && !decide (Ptr.kind y_2 = 4)) then (putsA ([encW y_2]) a (Spot.segment y_1) (Spot.at_ y_1)) else a]) 0)]⟩ : LSt U))))) ∧ ((bif zz0 then (((((Ptr.data p) : Int) + (Ptr.ptrs p)) : Int) == 0) else false) = false → (pre75 (y_3, ())) ∧ ((TrEG3 ((eqP (decP (encW y_3)) y_3 && !decide (Ptr.kind y_3 = 4)) = true)) ∧ (TrEG3 ((eqP (decP (encW y_3)) y_3 && !decide (Ptr.kind y_3 = 4)) = true)) ∧ (TrEG3 ((eqP (decP (encW y_3)) y_3 && !decide (Ptr.kind y_3 = 4)) = true)) ∧ (TrEG3 ((eqP (decP (encW y_3)) y_3 && !decide (Ptr.kind y_3 = 4)) = true)) ∧ ((eqP (decP (encW y_3)) y_3 && !decide (Ptr.kind y_3 = 4)) = true → pre44 ((a, ()), y_1, ([encW y_3]), ())) ∧ ((TrEG3 ((eqP (decP (encW y_3)) y_3 && !decide (Ptr.kind y_3 = 4)) = true))) ∧ (Q .ret (⟨[(0, .agg [.mref (.A)]), (8, .c (.bool (bif (eqP (decP (encW y_3)) y_3 && !decide (Ptr.kind y_3 = 4)) then true else false)))], [], [(.A, LC.mk (U := U) .arena ([bif (eqP (decP (encW y_3)) y_3 && !decide (Ptr.kind y_3 = 4)) then (putsA ([encW y_3]) a (Spot.segment y_1) (Spot.at_ y_1)) else a]) 0)]⟩ : LSt U)))))))) := by kernel_rfl
  exact e_.mpr (by intro y_1 y_2 y_3; have hh := h y_1 (reSpot_eq _) y_2 rfl y_3 rfl; exact ⟨hh.1, hh.2.1, ⟨id, id, id, id, hh.2.2.1, id, (by generalize (((Ptr.kind p) : Int) == 1) = b0; revert b0; decide), ⟨fun c_10 => ⟨(hh.2.2.2.1 c_10).1, ⟨id, id, id, id, (hh.2.2.2.1 c_10).2.1, (by generalize (eqP (decP (encW y_2)) y_2) = b0; generalize (decide (Ptr.kind y_2 = 4)) = b1; revert b0 b1; decide), (hh.2.2.2.1 c_10).2.2⟩⟩, fun c_10 => ⟨(hh.2.2.2.2 c_10).1, ⟨id, id, id, id, (hh.2.2.2.2 c_10).2.1, (by generalize (eqP (decP (encW y_3)) y_3) = b0; generalize (decide (Ptr.kind y_3 = 4)) = b1; revert b0 b1; decide), (hh.2.2.2.2 c_10).2.2⟩⟩⟩⟩⟩)
abbrev Body76 (a : Arena) (fr : Spot) (to : Spot) (p : Ptr)  : Prop := awp cfg (know (know76)) (drawOk cfg (know (know76))) Try.f76.ntmps lv76 (cd Try.f76 []) (entryL (args76.can ((a, ()), fr, to, p, ())) (args76.canX ((a, ()), fr, to, p, ())) (args76.canL ((a, ()), fr, to, p, ()))) (EndsQL cfg Try.f76.ntmps Try.f76.results.toList (res76 ((a, ()), fr, to, p, ())) (resX76 ((a, ()), fr, to, p, ())) (resL76 ((a, ()), fr, to, p, ())))
theorem make76 (c75 : Contract Try.prog cfg 75 spec75) (c44 : Contract Try.prog cfg 44 spec44) (hb : ∀ (a : Arena) (fr : Spot) (to : Spot) (p : Ptr) (_ : Unit), pre76 ((a, ()), fr, to, p, ()) → Body76 a fr to p) : Contract Try.prog cfg 76 spec76 :=
  Contract.passing <| contractXL_flat (l := [(75, spec75), (44, spec44)]) cfgOk rfl (⟨c75, c44, trivial⟩) lv76 Try.func76 rfl rfl 4 (fun _ => rfl) (by decide) (fun ⟨⟨a, _⟩, fr, to, p, _⟩ => hb a fr to p ())
noncomputable def know43 : List (FuncId × Fs U) := [(76, spec76), (77, spec77), (78, spec78), (22, spec22), (75, spec75), (46, spec46), (44, spec44)]
def lv43 : Lives U := fun i => match i with
  | 0 => ([(0, [.ar]), (4, []), (5, []), (6, []), (7, [])], [((.loc 4), [.ar]), ((.loc 5), []), ((.loc 6), []), ((.loc 7), [])])
  | 1 => ([(0, [.ar]), (4, []), (5, []), (6, []), (7, []), (33, [])], [((.loc 4), [.ar]), ((.loc 5), []), ((.loc 6), []), ((.loc 7), [])])
  | 2 => ([(0, [.ar]), (8, [])], [])
  | 3 => ([(0, [.ar]), (4, []), (5, []), (6, []), (7, []), (9, []), (10, [])], [((.loc 4), [.ar]), ((.loc 5), []), ((.loc 6), []), ((.loc 7), [])])
  | 4 => ([(0, [.ar]), (4, []), (5, []), (6, []), (7, []), (9, []), (47, [])], [((.loc 4), [.ar]), ((.loc 5), []), ((.loc 6), []), ((.loc 7), [])])
  | 5 => ([(0, [.ar]), (4, []), (5, []), (6, []), (7, []), (11, [])], [((.loc 4), [.ar]), ((.loc 5), []), ((.loc 6), []), ((.loc 7), []), ((.loc 11), [])])
  | 6 => ([(0, [.ar]), (8, [])], [])
  | 7 => ([(0, [.ar]), (4, []), (5, []), (6, []), (7, []), (12, []), (13, [])], [((.loc 4), [.ar]), ((.loc 5), []), ((.loc 6), []), ((.loc 7), []), ((.loc 12), [])])
  | 8 => ([(0, [.ar]), (4, []), (5, []), (6, []), (7, []), (12, []), (13, [])], [((.loc 4), [.ar]), ((.loc 5), []), ((.loc 6), []), ((.loc 7), []), ((.loc 12), [])])
  | 9 => ([(0, [.ar]), (4, []), (5, []), (6, []), (12, []), (13, []), (14, []), (15, [])], [((.loc 4), [.ar]), ((.loc 5), []), ((.loc 6), []), ((.loc 12), [])])
  | 10 => ([(0, [.ar]), (8, [])], [])
  | _ => ([], [])
abbrev W43 (a : Arena) (fr : Spot) (to : Spot) (p : Ptr) (Q : AExit → LSt U → Prop) := awp cfg (know know43) (drawOk cfg (know know43)) Try.f43.ntmps lv43 (cd Try.f43 []) (⟨[(0, .agg [.mref (.A)]), (1, .agg [.int .i64 (Spot.segment fr), .int .i64 (Spot.at_ fr)]), (2, .agg [.int .i64 (Spot.segment to), .int .i64 (Spot.at_ to)]), (3, .agg [.int .i64 (Ptr.kind p), .int .i64 (Ptr.off p), .int .i64 (Ptr.data p), .int .i64 (Ptr.ptrs p), .int .i64 (Ptr.code p), .int .i64 (Ptr.count p), .int .i64 (Ptr.segment p), .bool (Ptr.double p)])], [], [(.A, LC.mk (U := U) .arena ([a]) 0)]⟩ : LSt U) Q
theorem vc43 (a : Arena) (fr : Spot) (to : Spot) (p : Ptr) (Q : AExit → LSt U → Prop) (h : ∀ y_1, y_1 = (p) → ∀ y_2, y_2 = (fr) → ∀ y_3, y_3 = (to) → ∀ y_4, y_4 = (Ptr.mk (Ptr.kind p) 0 (Ptr.data p) (Ptr.ptrs p) (Ptr.code p) (Ptr.count p) (Ptr.segment p) (Ptr.double p)) → ∀ y_5, y_5 = (Spot.mk (Spot.segment to) (if inOk a (Spot.segment to) 1 then ((segAt a.segs (Spot.segment to)).length : Int) else 0)) → ∀ y_6, y_6 = (Spot.mk (if giveOk (inA a (Spot.segment to) 1) 2 then giveS (inA a (Spot.segment to) 1) 2 else 0) (if giveOk (inA a (Spot.segment to) 1) 2 then giveT (inA a (Spot.segment to) 1) 2 else 0)) → ∀ y_7, y_7 = (y_6) → ∀ y_8, y_8 = (putA (inA a (Spot.segment to) 1) (Spot.segment y_2) (Spot.at_ y_2) (farW false (Spot.segment y_5) (Spot.at_ y_5))) → ∀ y_9, y_9 = ((Spot.mk (Spot.segment y_7) (Spot.at_ y_7 + 1))) → ∀ y_10, y_10 = (putA (giveA (inA a (Spot.segment to) 1) 2) (Spot.segment y_2) (Spot.at_ y_2) (farW true (Spot.segment y_7) (Spot.at_ y_7))) → ∀ y_11, y_11 = (putA (bif (bif (giveOk (inA a (Spot.segment to) 1) 2) then (eqP (decP (encW y_4)) y_4 && !decide (Ptr.kind y_4 = 4)) else false) then y_10 else (giveA (inA a (Spot.segment to) 1) 2)) (Spot.segment y_7) (Spot.at_ y_7) (farW false (Spot.segment y_3) (Spot.at_ y_3))) → (((!(((Spot.segment fr) : Int) == (Spot.segment to))) && (((Ptr.kind p) : Int) == 1)) = true → InR (((Ptr.data p) : Int) + (Ptr.ptrs p))) ∧ (((bif (((Spot.segment fr) : Int) == (Spot.segment to)) then true else (bif (((Ptr.kind p) : Int) == 1) then (((((Ptr.data p) : Int) + (Ptr.ptrs p)) : Int) == 0) else false)) = true → (pre76 ((a, ()), y_2, y_3, y_1, ())) ∧ (Q .ret (⟨[(0, .agg [.mref (.A)]), (8, .c (.bool true))], [], [(.A, LC.mk (U := U) .arena ([putA a (Spot.segment y_2) (Spot.at_ y_2) (pwA (Spot.at_ y_2) (Spot.at_ y_3) (kdP y_1) (upP y_1))]) 0)]⟩ : LSt U))) ∧ ((bif (((Spot.segment fr) : Int) == (Spot.segment to)) then true else (bif (((Ptr.kind p) : Int) == 1) then (((((Ptr.data p) : Int) + (Ptr.ptrs p)) : Int) == 0) else false)) = false → (pre77 (a, (Spot.segment to), 1, ())) ∧ (((inOk a (Spot.segment to) 1) = true → (pre78 (((inA a (Spot.segment to) 1), ()), y_2, y_5, false, ())) ∧ ((true) = true → pre76 ((y_8, ()), y_5, y_3, y_1, ())) ∧ (Q .ret (⟨[(0, .agg [.mref (.A)]), (8, .c (.bool true))], [], [(.A, LC.mk (U := U) .arena ([bif true then (putA y_8 (Spot.segment y_5) (Spot.at_ y_5) (pwA (Spot.at_ y_5) (Spot.at_ y_3) (kdP y_1) (upP y_1))) else y_8]) 0)]⟩ : LSt U))) ∧ ((inOk a (Spot.segment to) 1) = false → (pre22 (((inA a (Spot.segment to) 1), ()), 2, ())) ∧ ((pre75 (y_4, ())) ∧ (((bif (giveOk (inA a (Spot.segment to) 1) 2) then (eqP (decP (encW y_4)) y_4 && !decide (Ptr.kind y_4 = 4)) else false) = true → pre78 (((giveA (inA a (Spot.segment to) 1) 2), ()), y_2, y_7, true, ())) ∧ ((bif (bif (giveOk (inA a (Spot.segment to) 1) 2) then (eqP (decP (encW y_4)) y_4 && !decide (Ptr.kind y_4 = 4)) else false) then true else false) = true → pre78 (((bif (bif (giveOk (inA a (Spot.segment to) 1) 2) then (eqP (decP (encW y_4)) y_4 && !decide (Ptr.kind y_4 = 4)) else false) then y_10 else (giveA (inA a (Spot.segment to) 1) 2)), ()), y_7, y_3, false, ())) ∧ ((bif (bif (bif (giveOk (inA a (Spot.segment to) 1) 2) then (eqP (decP (encW y_4)) y_4 && !decide (Ptr.kind y_4 = 4)) else false) then true else false) then true else false) = true → pre46 (y_7, 1, ())) ∧ ((bif (bif (bif (giveOk (inA a (Spot.segment to) 1) 2) then (eqP (decP (encW y_4)) y_4 && !decide (Ptr.kind y_4 = 4)) else false) then true else false) then true else false) = true → pre44 (((bif (bif (bif (giveOk (inA a (Spot.segment to) 1) 2) then (eqP (decP (encW y_4)) y_4 && !decide (Ptr.kind y_4 = 4)) else false) then true else false) then y_11 else (bif (bif (giveOk (inA a (Spot.segment to) 1) 2) then (eqP (decP (encW y_4)) y_4 && !decide (Ptr.kind y_4 = 4)) else false) then y_10 else (giveA (inA a (Spot.segment to) 1) 2))), ()), y_9, ([encW y_4]), ())) ∧ (Q .ret (⟨[(0, .agg [.mref (.A)]), (8, .c (.bool (bif (bif (bif (bif (giveOk (inA a (Spot.segment to) 1) 2) then (eqP (decP (encW y_4)) y_4 && !decide (Ptr.kind y_4 = 4)) else false) then true else false) then true else false) then true else false)))], [], [(.A, LC.mk (U := U) .arena ([bif (bif (bif (bif (giveOk (inA a (Spot.segment to) 1) 2) then (eqP (decP (encW y_4)) y_4 && !decide (Ptr.kind y_4 = 4)) else false) then true else false) then true else false) then (putsA ([encW y_4]) (bif (bif (bif (giveOk (inA a (Spot.segment to) 1) 2) then (eqP (decP (encW y_4)) y_4 && !decide (Ptr.kind y_4 = 4)) else false) then true else false) then y_11 else (bif (bif (giveOk (inA a (Spot.segment to) 1) 2) then (eqP (decP (encW y_4)) y_4 && !decide (Ptr.kind y_4 = 4)) else false) then y_10 else (giveA (inA a (Spot.segment to) 1) 2))) (Spot.segment y_9) (Spot.at_ y_9)) else (bif (bif (bif (giveOk (inA a (Spot.segment to) 1) 2) then (eqP (decP (encW y_4)) y_4 && !decide (Ptr.kind y_4 = 4)) else false) then true else false) then y_11 else (bif (bif (giveOk (inA a (Spot.segment to) 1) 2) then (eqP (decP (encW y_4)) y_4 && !decide (Ptr.kind y_4 = 4)) else false) then y_10 else (giveA (inA a (Spot.segment to) 1) 2)))]) 0)]⟩ : LSt U))))))))) :
    W43 a fr to p Q := by
  have e_ : (W43 a fr to p Q) = (let y_1 := (rePtr p); let y_2 := (reSpot fr); let y_3 := (reSpot to); let y_4 := (Ptr.mk (Ptr.kind p) 0 (Ptr.data p) (Ptr.ptrs p) (Ptr.code p) (Ptr.count p) (Ptr.segment p) (Ptr.double p)); let y_5 := (Spot.mk (Spot.segment to) (if inOk a (Spot.segment to) 1 then ((segAt a.segs (Spot.segment to)).length : Int) else 0)); let y_6 := (Spot.mk (if giveOk (inA a (Spot.segment to) 1) 2 then giveS (inA a (Spot.segment to) 1) 2 else 0) (if giveOk (inA a (Spot.segment to) 1) 2 then giveT (inA a (Spot.segment to) 1) 2 else 0)); let y_7 := (reSpot y_6); let y_8 := (putA (inA a (Spot.segment to) 1) (Spot.segment y_2) (Spot.at_ y_2) (farW false (Spot.segment y_5) (Spot.at_ y_5))); let y_9 := (reSpot (Spot.mk (Spot.segment y_7) (Spot.at_ y_7 + 1))); let y_10 := (putA (giveA (inA a (Spot.segment to) 1) 2) (Spot.segment y_2) (Spot.at_ y_2) (farW true (Spot.segment y_7) (Spot.at_ y_7))); let y_11 := (putA (bif (bif (giveOk (inA a (Spot.segment to) 1) 2) then (eqP (decP (encW y_4)) y_4 && !decide (Ptr.kind y_4 = 4)) else false) then y_10 else (giveA (inA a (Spot.segment to) 1) 2)) (Spot.segment y_7) (Spot.at_ y_7) (farW false (Spot.segment y_3) (Spot.at_ y_3))); let zz2 := (((Ptr.kind p) : Int) == 1); let zz1 := (((Spot.segment fr) : Int) == (Spot.segment to)); let zz0 := (bif (giveOk (inA a (Spot.segment to) 1) 2) then (eqP (decP (encW y_4)) y_4 && !decide (Ptr.kind y_4 = 4)) else false); ((TrEG3 ((!zz1) = true)) ∧ (TrEG3 ((!zz1) = true)) ∧ (TrEG3 ((!zz1) = true)) ∧ (TrEG3 (((!zz1) && zz2) = true)) ∧ (TrEG3 (((!zz1) && zz2) = true)) ∧ (TrEG3 (((!zz1) && zz2) = true)) ∧ (TrEG3 (((!zz1) && zz2) = true)) ∧ (((!zz1) && zz2) = true → InR (((Ptr.data p) : Int) + (Ptr.ptrs p))) ∧ (TrEG3 (((!zz1) && zz2) = true)) ∧ ((!zz1) = true → (True → (!zz1) = true)) ∧ ((!zz1) = true → (zz2 = true → ((!zz1) && zz2) = true)) ∧ ((zz1 = false → (!zz1) = true)) ∧ (((bif zz1 then true else (bif zz2 then (((((Ptr.data p) : Int) + (Ptr.ptrs p)) : Int) == 0) else false)) = true → (pre76 ((a, ()), y_2, y_3, y_1, ())) ∧ (Q .ret (⟨[(0, .agg [.mref (.A)]), (8, .c (.bool true))], [], [(.A, LC.mk (U := U) .arena ([putA a (Spot.segment y_2) (Spot.at_ y_2) (pwA (Spot.at_ y_2) (Spot.at_ y_3) (kdP y_1) (upP y_1))]) 0)]⟩ : LSt U))) ∧ ((bif zz1 then true else (bif zz2 then (((((Ptr.data p) : Int) + (Ptr.ptrs p)) : Int) == 0) else false)) = false → (pre77 (a, (Spot.segment to), 1, ())) ∧ ((((inOk a (Spot.segment to) 1) = true → ((pre78 (((inA a (Spot.segment to) 1), ()), y_2, y_5, false, ())) ∧ ((true) = true → (true) = true) ∧ ((true) = true → (true) = true) ∧ ((true) = true → (true) = true) ∧ ((true) = true → (true) = true) ∧ ((true) = true → pre76 ((y_8, ()), y_5, y_3, y_1, ())) ∧ (((true) = true → (true) = true)) ∧ (Q .ret (⟨[(0, .agg [.mref (.A)]), (8, .c (.bool true))], [], [(.A, LC.mk (U := U) .arena ([bif true then (putA y_8 (Spot.segment y_5) (Spot.at_ y_5) (pwA (Spot.at_ y_5) (Spot.at_ y_3) (kdP y_1) (upP y_1))) else y_8]) 0)]⟩ : LSt U)))) ∧ ((inOk a (Spot.segment to) 1) = false → (pre22 (((inA a (Spot.segment to) 1), ()), 2, ())) ∧ (((pre75 (y_4, ())) ∧ (((TrEG3 ((giveOk (inA a (Spot.segment to) 1) 2) = true))) ∧ (TrEG3 (zz0 = true)) ∧ (TrEG3 (zz0 = true)) ∧ (TrEG3 (zz0 = true)) ∧ (zz0 = true → pre78 (((giveA (inA a (Spot.segment to) 1) 2), ()), y_2, y_7, true, ())) ∧ ((TrEG3 (zz0 = true))) ∧ (TrEG3 ((bif zz0 then true else false) = true)) ∧ (TrEG3 ((bif zz0 then true else false) = true)) ∧ (TrEG3 ((bif zz0 then true else false) = true)) ∧ ((bif zz0 then true else false) = true → pre78 (((bif zz0 then y_10 else (giveA (inA a (Spot.segment to) 1) 2)), ()), y_7, y_3, false, ())) ∧ ((TrEG3 ((bif zz0 then true else false) = true))) ∧ (TrEG3 ((bif (bif zz0 then true else false) then true else false) = true)) ∧ ((bif (bif zz0 then true else false) then true else false) = true → pre46 (y_7, 1, ())) ∧ (TrEG3 ((bif (bif zz0 then true else false) then true else false) = true)) ∧ (TrEG3 ((bif (bif zz0 then true else false) then true else false) = true)) ∧ (TrEG3 ((bif (bif zz0 then true else false) then true else false) = true)) ∧ (TrEG3 ((bif (bif zz0 then true else false) then true else false) = true)) ∧ ((bif (bif zz0 then true else false) then true else false) = true → pre44 (((bif (bif zz0 then true else false) then y_11 else (bif zz0 then y_10 else (giveA (inA a (Spot.segment to) 1) 2))), ()), y_9, ([encW y_4]), ())) ∧ ((TrEG3 ((bif (bif zz0 then true else false) then true else false) = true))) ∧ (Q .ret (⟨[(0, .agg [.mref (.A)]), (8, .c (.bool (bif (bif (bif zz0 then true else false) then true else false) then true else false)))], [], [(.A, LC.mk (U := U) .arena ([bif (bif (bif zz0 then true else false) then true else false) then (putsA ([encW y_4]) (bif (bif zz0 then true else false) then y_11 else (bif zz0 then y_10 else (giveA (inA a (Spot.segment to) 1) 2))) (Spot.segment y_9) (Spot.at_ y_9)) else (bif (bif zz0 then true else false) then y_11 else (bif zz0 then y_10 else (giveA (inA a (Spot.segment to) 1) 2)))]) 0)]⟩ : LSt U)))))))))))) := by kernel_rfl
  exact e_.mpr (by intro y_1 y_2 y_3 y_4 y_5 y_6 y_7 y_8 y_9 y_10 y_11; have hh := h y_1 (rePtr_eq _) y_2 (reSpot_eq _) y_3 (reSpot_eq _) y_4 rfl y_5 rfl y_6 rfl y_7 (reSpot_eq _) y_8 rfl y_9 (reSpot_eq _) y_10 rfl y_11 rfl; exact ⟨id, id, id, id, id, id, id, hh.1, id, (by generalize (((Spot.segment fr) : Int) == (Spot.segment to)) = b0; revert b0; decide), (by generalize (((Spot.segment fr) : Int) == (Spot.segment to)) = b0; generalize (((Ptr.kind p) : Int) == 1) = b1; revert b0 b1; decide), (by generalize (((Spot.segment fr) : Int) == (Spot.segment to)) = b0; revert b0; decide), ⟨fun c_11 => ⟨(hh.2.1 c_11).1, (hh.2.1 c_11).2⟩, fun c_11 => ⟨(hh.2.2 c_11).1, ⟨fun c_12 => ⟨((hh.2.2 c_11).2.1 c_12).1, id, id, id, id, ((hh.2.2 c_11).2.1 c_12).2.1, (by decide), ((hh.2.2 c_11).2.1 c_12).2.2⟩, fun c_12 => ⟨((hh.2.2 c_11).2.2 c_12).1, ⟨((hh.2.2 c_11).2.2 c_12).2.1, ⟨(by generalize (giveOk (inA a (Spot.segment to) 1) 2) = b0; revert b0; decide), id, id, id, ((hh.2.2 c_11).2.2 c_12).2.2.1, (by generalize (eqP (decP (encW y_4)) y_4) = b0; generalize (decide (Ptr.kind y_4 = 4)) = b1; generalize (giveOk (inA a (Spot.segment to) 1) 2) = b2; revert b0 b1 b2; decide), id, id, id, ((hh.2.2 c_11).2.2 c_12).2.2.2.1, (by generalize (eqP (decP (encW y_4)) y_4) = b0; generalize (decide (Ptr.kind y_4 = 4)) = b1; generalize (giveOk (inA a (Spot.segment to) 1) 2) = b2; revert b0 b1 b2; decide), id, ((hh.2.2 c_11).2.2 c_12).2.2.2.2.1, id, id, id, id, ((hh.2.2 c_11).2.2 c_12).2.2.2.2.2.1, (by generalize (eqP (decP (encW y_4)) y_4) = b0; generalize (decide (Ptr.kind y_4 = 4)) = b1; generalize (giveOk (inA a (Spot.segment to) 1) 2) = b2; revert b0 b1 b2; decide), ((hh.2.2 c_11).2.2 c_12).2.2.2.2.2.2⟩⟩⟩⟩⟩⟩⟩)
abbrev Body43 (a : Arena) (fr : Spot) (to : Spot) (p : Ptr)  : Prop := awp cfg (know (know43)) (drawOk cfg (know (know43))) Try.f43.ntmps lv43 (cd Try.f43 []) (entryL (args43.can ((a, ()), fr, to, p, ())) (args43.canX ((a, ()), fr, to, p, ())) (args43.canL ((a, ()), fr, to, p, ()))) (EndsQL cfg Try.f43.ntmps Try.f43.results.toList (res43 ((a, ()), fr, to, p, ())) (resX43 ((a, ()), fr, to, p, ())) (resL43 ((a, ()), fr, to, p, ())))
theorem make43 (c76 : Contract Try.prog cfg 76 spec76) (c77 : Contract Try.prog cfg 77 spec77) (c78 : Contract Try.prog cfg 78 spec78) (c22 : Contract Try.prog cfg 22 spec22) (c75 : Contract Try.prog cfg 75 spec75) (c46 : Contract Try.prog cfg 46 spec46) (c44 : Contract Try.prog cfg 44 spec44) (hb : ∀ (a : Arena) (fr : Spot) (to : Spot) (p : Ptr) (_ : Unit), pre43 ((a, ()), fr, to, p, ()) → Body43 a fr to p) : Contract Try.prog cfg 43 spec43 :=
  Contract.passing <| contractXL_flat (l := [(76, spec76), (77, spec77), (78, spec78), (22, spec22), (75, spec75), (46, spec46), (44, spec44)]) cfgOk rfl (⟨c76, c77, c78, c22, c75, c46, c44, trivial⟩) lv43 Try.func43 rfl rfl 4 (fun _ => rfl) (by decide) (fun ⟨⟨a, _⟩, fr, to, p, _⟩ => hb a fr to p ())
end
end Go.AM.Ytcljdbpmjdgooaa

namespace Go.AM.Ytcljdbpmjdgooaa
open Go.AM Go.Proofs
theorem okar_puts : ∀ (l : List Int) {a : Arena} (s i : Int), OkAr a → okW l → OkAr (putsA l a s i)
  | [], _, _, _, h, _ => h
  | w :: r, a, s, i, h, hw => okar_puts r s (i + 1) (h.put s i (hw w (List.mem_cons_self ..))) fun x hx => hw x (List.mem_cons_of_mem _ hx)
theorem gr_puts : ∀ (l : List Int) (a : Arena) (s i : Int), Gr a (putsA l a s i)
  | [], a, _, _ => .refl a
  | w :: r, a, s, i => (gr_put a s i w).trans (gr_puts r _ s (i + 1))
theorem ptrP_word {a to k up : Int} (hk : 0 ≤ k ∧ k < 4) (hu : 0 ≤ up ∧ up < 4294967296) : 0 ≤ ptrP a to k up ∧ ptrP a to k up < 18446744073709551616 := by
  have h0 := Int.emod_nonneg (to - a - 1) (show (1073741824 : Int) ≠ 0 by decide)
  have h1 := Int.emod_lt_of_pos (to - a - 1) (show (0 : Int) < 1073741824 by decide)
  unfold ptrP
  omega
theorem pwA_word {a to k up : Int} (hk : 0 ≤ k ∧ k < 4) (hu : 0 ≤ up ∧ up < 4294967296) : 0 ≤ pwA a to k up ∧ pwA a to k up < 18446744073709551616 := by
  unfold pwA
  split
  · decide
  · exact ptrP_word hk hu
theorem farW_word {d : Bool} {s i : Int} (hs : 0 ≤ s ∧ s < 4294967296) (hi : 0 ≤ i ∧ i < 536870912) : 0 ≤ farW d s i ∧ farW d s i < 18446744073709551616 := by
  unfold farW
  split <;> omega
theorem OkAr.endA {a : Arena} (h : OkAr a) (s : Int) : 0 ≤ endA a s ∧ endA a s ≤ 131072 := by
  have := h.len s
  have := h.used
  unfold Ytcljdbpmjdgooaa.endA
  omega
theorem OkAr.giveT {a : Arena} (h : OkAr a) (n : Int) : 0 ≤ giveT a n ∧ giveT a n ≤ 131072 := (h.opens n).endA _
theorem OkAr.giveS {a : Arena} (h : OkAr a) (n : Int) : 0 ≤ giveS a n ∧ giveS a n < 16 := by
  have := giveS_range a n
  have := (h.opens n).few
  omega
theorem okar_point {a : Arena} (h : OkAr a) (s i : Int) {s' i' k up : Int} (hs : 0 ≤ s' ∧ s' < a.segs.length) (hi : 0 ≤ i' ∧ i' ≤ 131072) (hk : 0 ≤ k ∧ k < 4) (hu : 0 ≤ up ∧ up < 4294967296) : OkAr (pointA a s i s' i' k up).1 ∧ Gr a (pointA a s i s' i' k up).1 := by
  have hf := h.few
  unfold pointA
  split
  · exact ⟨h.put _ _ (pwA_word hk hu), gr_put _ _ _ _⟩
  · split
    · have he := h.endA s'
      exact ⟨((h.inn s' 1).put _ _ (farW_word ⟨by omega, by omega⟩ ⟨by omega, by omega⟩)).put _ _ (pwA_word hk hu), ((gr_in a s' 1).trans (gr_put _ _ _ _)).trans (gr_put _ _ _ _)⟩
    · split
      · have e1 := h.giveS 2
        have e2 := h.giveT 2
        exact ⟨(((h.give 2).put _ _ (farW_word ⟨by omega, by omega⟩ ⟨by omega, by omega⟩)).put _ _ (farW_word ⟨by omega, by omega⟩ ⟨by omega, by omega⟩)).put _ _ ⟨by omega, by omega⟩, (((gr_give a 2).trans (gr_put _ _ _ _)).trans (gr_put _ _ _ _)).trans (gr_put _ _ _ _)⟩
      · exact ⟨h, .refl a⟩
theorem give_s {a : Arena} {n : Int} (h : giveOk a n = true) : 0 ≤ giveS a n ∧ giveS a n < ((giveA a n).segs.length : Int) := by
  have hs := giveS_range a n
  unfold giveA
  rw [if_pos h]
  show _ ∧ _ < (((openA a n).segs.set _ _).length : Int)
  rw [List.length_set]
  exact hs
theorem okar_block {a : Arena} (h : OkAr a) (s i n : Int) {k up : Int} (hk : 0 ≤ k ∧ k < 4) (hu : giveOk a n = true → 0 ≤ up ∧ up < 4294967296) : OkAr (blockA a s i n k up).1 ∧ Gr a (blockA a s i n k up).1 := by
  unfold blockA
  split
  · rename_i hg
    have e1 := give_s hg
    have e2 := h.giveT n
    obtain ⟨h1, h2⟩ := okar_point (h.give n) s i e1 e2 hk (hu hg)
    exact ⟨h1, (gr_give a n).trans h2⟩
  · exact ⟨h, .refl a⟩
theorem and_ok {a : Arena} {b : Arena × Bool} {f : Arena → Arena × Bool} (hb : OkAr b.1 ∧ Gr a b.1) (hf : b.2 = true → OkAr (f b.1).1 ∧ Gr b.1 (f b.1).1) : OkAr (andA b f).1 ∧ Gr a (andA b f).1 := by
  unfold andA
  cases h : b.2 with
  | false => exact hb
  | true => exact ⟨(hf h).1, hb.2.trans (hf h).2⟩
theorem block_has {a : Arena} {s i n k up : Int} (h : (blockA a s i n k up).2 = true) : giveOk a n = true ∧ Gr (giveA a n) (blockA a s i n k up).1 := by
  unfold blockA at h ⊢
  split
  · rename_i hg
    refine ⟨hg, ?_⟩
    unfold pointA
    split
    · exact gr_put _ _ _ _
    · split
      · exact ((gr_in _ _ 1).trans (gr_put _ _ _ _)).trans (gr_put _ _ _ _)
      · split
        · exact (((gr_give _ 2).trans (gr_put _ _ _ _)).trans (gr_put _ _ _ _)).trans (gr_put _ _ _ _)
        · exact .refl _
  · rename_i hg
    rw [if_neg hg] at h
    cases h
theorem give_le {a : Arena} (h : OkAr a) {n : Int} (hg : giveOk a n = true) : 0 ≤ n ∧ n ≤ 131072 := by
  have hh : 0 ≤ n ∧ n ≤ a.most - a.used := of_decide_eq_true hg
  have := h.used
  omega
end Go.AM.Ytcljdbpmjdgooaa

namespace Go.AM.Ytcljdbpmjdgooaa
open Go.AM Go.Proofs
theorem c22 : Contract Try.prog cfg 22 spec22 := by
  refine make22 c40 ?_
  intro a n _ h
  refine vc22 a n _ ⟨h, ?_⟩
  (repeat' (first | exact trivial | exact rfl | apply And.intro))
theorem c46 : Contract Try.prog cfg 46 spec46 := by
  refine make46 ?_
  intro s n _ h
  refine vc46 s n _ ⟨h, ?_⟩
  (repeat' (first | exact trivial | exact rfl | apply And.intro))
theorem putsA_app : ∀ (x y : List Int) (a : Arena) (s i : Int), putsA (x ++ y) a s i = putsA y (putsA x a s i) s (i + x.length)
  | [], y, a, s, i => by simp [putsA]
  | w :: r, y, a, s, i => by
    rw [List.cons_append, putsA, putsA, putsA_app r y]
    congr 1
    rw [List.length_cons]
    omega
theorem c44 : Contract Try.prog cfg 44 spec44 := by
  refine make44 c79 ?_
  intro a s l _ hp
  obtain ⟨⟨h, hw⟩, hh⟩ := hp
  dsimp only at h hw hh
  have hb := hasN_iff.1 hh
  have hu := h.used
  have hl := h.len (Spot.segment s)
  refine vc44 a s l _ ?_
  refine loop_rule (ι := Int × Arena) (fun p => head44_0 a s l p.1 p.2) (fun p => (0 ≤ p.1 ∧ p.1 ≤ l.length) ∧ p.2 = putsA (l.take p.1.toNat) a s.segment s.at_) (fun p => ((l.length : Int) - p.1).toNat) (0, a) rfl ⟨⟨by dsimp only; omega, by dsimp only; omega⟩, rfl⟩ ?_
  rintro ⟨i, r⟩ ⟨⟨g1, g2⟩, g3⟩
  dsimp only at g1 g2 g3
  have hr : OkAr r := by rw [g3]; exact okar_puts _ _ _ h fun x hx => hw x (List.mem_of_mem_take hx)
  have hg : Gr a r := by rw [g3]; exact gr_puts _ _ _ _
  refine vc44_l0 a s l i r _ _ ⟨fun hb1 => ?_, fun hb1 => ?_⟩
  · have hi : i < l.length := of_decide_eq_true hb1
    have hw' := getD_word hw i.toNat
    have h1 : hasN r.segs s.segment (s.at_ + i) 1 = true := hg.has (hasN_iff.2 ⟨hb.1, hb.2.1, by omega, by omega, by omega⟩)
    refine ⟨⟨g1, hi⟩, by ((unfold InR; omega)), ⟨hr, hw'⟩, fun hc => ?_, fun _ => ⟨by ((unfold InR; omega)), (i + 1, putA r s.segment (s.at_ + i) (l.getD i.toNat 0)), rfl, ⟨⟨by dsimp only; omega, by dsimp only; omega⟩, ?_⟩, by dsimp only; omega⟩⟩
    · rw [h1] at hc
      cases hc
    · dsimp only
      have e : l.take (i + 1).toNat = l.take i.toNat ++ [l.getD i.toNat 0] := by
        rw [show (i + 1).toNat = i.toNat + 1 by omega, List.getD_eq_getElem?_getD, List.getElem?_eq_getElem (show i.toNat < l.length by omega), Option.getD_some]
        exact (List.take_append_getElem (by omega)).symm
      rw [e, putsA_app, ← g3, List.length_take, Nat.min_eq_left (by omega), putsA, putsA, Int.toNat_of_nonneg g1]
  · have hi : ¬ i < l.length := of_decide_eq_false hb1
    have e : i = l.length := by omega
    subst e
    rw [Int.toNat_natCast, List.take_length] at g3
    subst g3
    (repeat' (first | exact trivial | exact rfl | apply And.intro))
theorem dec_far {d : Bool} {s o : Int} (hs : 0 ≤ s ∧ s < 4294967296) (ho : 0 ≤ o ∧ o < 536870912) : decP (farW d s o) = ⟨3, o, 0, 0, 0, 0, s, d⟩ := by
  unfold farW decP
  cases d with
  | true =>
    rw [if_pos rfl, if_neg (by omega), if_neg (by omega), if_neg (by omega), if_pos (by omega)]
    congr 1
    · omega
    · omega
    · exact decide_eq_true (by omega)
  | false =>
    simp only [Bool.false_eq_true, if_false]
    rw [if_neg (by omega), if_neg (by omega), if_neg (by omega), if_pos (by omega)]
    congr 1
    · omega
    · omega
    · exact decide_eq_false (by omega)
theorem or_nat {x y : Nat} (hx : x < 18446744073709551616) (hy : y < 18446744073709551616) : IntKind.wrap .u64 (BitVec.ofInt (IntKind.bits .u64) (x : Int) ||| BitVec.ofInt (IntKind.bits .u64) (y : Int)).toNat = ((x ||| y : Nat) : Int) := by
  have e : ∀ z : Nat, z < 18446744073709551616 → (BitVec.ofInt (IntKind.bits .u64) (z : Int)).toNat = z := by
    intro z z1
    simp [IntKind.bits]
    omega
  rw [BitVec.toNat_or, e x hx, e y hy]
  have : (x ||| y) < 2 ^ 64 := Nat.or_lt_two_pow hx hy
  exact wrap_u64 (by omega) (by omega)
theorem or_sum2 {o : Int} (h0 : 0 ≤ o) (h1 : o < 536870912) : IntKind.wrap .u64 (BitVec.ofInt (IntKind.bits .u64) (8 * o) ||| BitVec.ofInt (IntKind.bits .u64) 2).toNat = 2 + 8 * o := by
  obtain ⟨n, rfl⟩ := Int.eq_ofNat_of_zero_le h0
  have h := or_nat (x := 8 * n) (y := 2) (by omega) (by decide)
  rw [show ((8 * n : Nat) : Int) = 8 * (n : Int) by omega, show ((2 : Nat) : Int) = 2 from rfl] at h
  rw [h]
  have := Nat.two_pow_add_eq_or_of_lt (i := 3) (b := 2) (by decide) n
  rw [show (2 : Nat) ^ 3 = 8 from rfl] at this
  rw [← this]
  omega
theorem or_sum32' {x s : Int} (h0 : 0 ≤ x) (h1 : x < 4294967296) (hs : 0 ≤ s ∧ s < 4294967296) : IntKind.wrap .u64 (BitVec.ofInt (IntKind.bits .u64) x ||| BitVec.ofInt (IntKind.bits .u64) (4294967296 * s)).toNat = x + 4294967296 * s := by
  obtain ⟨n, rfl⟩ := Int.eq_ofNat_of_zero_le h0
  obtain ⟨m, rfl⟩ := Int.eq_ofNat_of_zero_le hs.1
  have h := or_nat (x := n) (y := 4294967296 * m) (by omega) (by omega)
  rw [show ((4294967296 * m : Nat) : Int) = 4294967296 * (m : Int) by omega] at h
  rw [h, Nat.or_comm]
  have := Nat.two_pow_add_eq_or_of_lt (i := 32) (b := n) (by omega) m
  rw [show (2 : Nat) ^ 32 = 4294967296 from rfl] at this
  rw [← this]
  omega
theorem or_bit4 {o s : Int} (h0 : 0 ≤ o ∧ o < 536870912) (hs : 0 ≤ s ∧ s < 4294967296) : IntKind.wrap .u64 (BitVec.ofInt (IntKind.bits .u64) (2 + 8 * o + 4294967296 * s) ||| BitVec.ofInt (IntKind.bits .u64) 4).toNat = 6 + 8 * o + 4294967296 * s := by
  obtain ⟨n, rfl⟩ := Int.eq_ofNat_of_zero_le h0.1
  obtain ⟨m, rfl⟩ := Int.eq_ofNat_of_zero_le hs.1
  have h := or_nat (x := 2 + 8 * n + 4294967296 * m) (y := 4) (by omega) (by decide)
  rw [show ((2 + 8 * n + 4294967296 * m : Nat) : Int) = 2 + 8 * (n : Int) + 4294967296 * (m : Int) by omega, show ((4 : Nat) : Int) = 4 from rfl] at h
  rw [h]
  have e : 2 + 8 * n + 4294967296 * m = 2 ^ 3 * (n + 536870912 * m) + 2 := by omega
  have e1 := Nat.two_pow_add_eq_or_of_lt (i := 3) (b := 2) (by decide) (n + 536870912 * m)
  have e2 := Nat.two_pow_add_eq_or_of_lt (i := 3) (b := 6) (by decide) (n + 536870912 * m)
  have : (2 + 8 * n + 4294967296 * m) ||| 4 = 2 ^ 3 * (n + 536870912 * m) + 6 := by
    rw [e, e1, e2, Nat.or_assoc]
    rfl
  rw [this]
  omega
theorem c3075 : Contract Try.prog cfg 75 spec3075 := by
  refine make3075 c98 c99 c100 c101 ?_
  intro p _ hp
  obtain ⟨o, s, d, e, ho, hs⟩ := hp
  dsimp only at e
  subst e
  have fin : ∀ {x : Int} {v1 v2 v3 v4 v5 : V U}, x = farW d s o → awp cfg (know know3075) (drawOk cfg (know know3075)) Try.f75.ntmps lv3075 (cd Try.f75 [1, 1, 1]) (head3075_0 (Ptr.mk 3 o 0 0 0 0 s d) x v1 v2 v3 v4 v5) (EndsQ cfg Try.f75.ntmps Try.f75.results.toList (res3075 (Ptr.mk 3 o 0 0 0 0 s d, ())) []) := by
    intro x v1 v2 v3 v4 v5 hx
    refine vc3075_c0 _ _ _ _ _ _ _ _ ?_
    have hr := farW_word (d := d) hs ho
    refine ⟨by subst hx; exact hr, ?_⟩
    subst hx
    rw [dec_far hs ho]
    refine ends_eq (r' := .tup [(false, [.int .u64 (farW d s o)]), (false, [.bool true])]) rfl ?_
    simp only [beq_self_eq_true, Bool.and_self, cond_true]
    (repeat' (first | exact trivial | exact rfl | apply And.intro))
  have e3 : min (Int.toNat 3) (IntKind.bits .u64) = 3 := rfl
  have e32 : min (Int.toNat 32) (IntKind.bits .u64) = 32 := rfl
  have q3 : (2 : Int) ^ 3 = 8 := rfl
  have q32 : (2 : Int) ^ 32 = 4294967296 := rfl
  have q2 : (2 : Int) ^ 2 = 4 := rfl
  have q1 : (2 : Int) ^ 1 = 2 := rfl
  refine vc3075 (Ptr.mk 3 o 0 0 0 0 s d) _ ?_
  intro y1 hy1 y2 hy2 y3 _ y4 _ y5 hy5 y6 hy6
  have hy1 : y1 = 8 * o := by
    rw [hy1, shl64 3 e3 (by dsimp only; omega) (by dsimp only; omega) (by dsimp only; omega)]
    dsimp only
    omega
  have hy2 : y2 = 4294967296 * s := by
    rw [hy2, shl64 32 e32 (by dsimp only; omega) (by dsimp only; omega) (by dsimp only; omega)]
    dsimp only
    omega
  refine ⟨fun h => by simp at h, fun _ => ⟨fun h => by simp at h, fun _ => ⟨fun _ => ⟨trivial, fun _ => trivial, fun _ => ⟨by decide, by decide, fun hd => fin ?_, fun hd => fin ?_⟩, fun hc => ?_⟩, fun h => by simp at h⟩⟩⟩
  · rw [hy6, hy5, hy1, hy2]
    show _ = 2 + (if d = true then 4 else 0) + 8 * o + 4294967296 * s
    have hd : d = true := hd
    rw [or_sum2 (by omega) (by omega), or_sum32' (by omega) (by omega) hs]
    rw [hd, if_pos rfl, or_bit4 (by omega) (by omega)]
    omega
  · rw [hy6, hy5, hy1, hy2]
    show _ = 2 + (if d = true then 4 else 0) + 8 * o + 4294967296 * s
    have hd : d = false := hd
    rw [or_sum2 (by omega) (by omega), or_sum32' (by omega) (by omega) hs]
    rw [hd, if_neg (by decide)]
    omega
  · rw [decide_eq_true (show 0 ≤ o ∧ o ≤ 536870911 by omega), decide_eq_true (show 0 ≤ s ∧ s ≤ 4294967295 by omega)] at hc
    cases hc
theorem c78 : Contract Try.prog cfg 78 spec78 := by
  refine make78 c3075 c44 ?_
  intro a fr to d _ hp
  obtain ⟨⟨h, hf⟩, ho, hs⟩ := hp
  dsimp only at h hf ho hs
  have hr := farW_word (d := d) hs ho
  refine vc78 a fr to d _ ⟨⟨_, _, _, rfl, ho, hs⟩, fun _ => ⟨⟨h, fun x hx => ?_⟩, hf⟩, ?_⟩
  · rw [List.mem_singleton.1 hx]
    exact hr
  · (repeat' (first | exact trivial | exact rfl | apply And.intro))
theorem enc_pnt {p : Ptr} (h : pntOk p) {o : Int} (ho : -536870912 ≤ o ∧ o < 536870912) (hz : ¬(o = 0 ∧ kdP p = 0 ∧ upP p = 0)) {q : Ptr} (hq : q = Ptr.mk p.kind o p.data p.ptrs p.code p.count p.segment p.double) :
    (eqP (decP (encW q)) q && !decide (q.kind = 4)) = true ∧ encW q = 4 * (o % 1073741824) + kdP p + 4294967296 * upP p := by
  subst hq
  obtain ⟨k, o0, d, q, c, n, s, b⟩ := p
  obtain ⟨h, hs, hb⟩ := h
  dsimp only at h hs hb
  subst hs hb
  rcases h with ⟨rfl, hd, hp, rfl, rfl⟩ | ⟨rfl, rfl, rfl, hc, hn⟩
  · have ek : kdP ⟨1, o0, d, q, 0, 0, 0, false⟩ = 0 := rfl
    have eu : upP ⟨1, o0, d, q, 0, 0, 0, false⟩ = d + 65536 * q := rfl
    rw [ek, eu] at hz ⊢
    have e : encW ⟨1, o, d, q, 0, 0, 0, false⟩ = 4 * (o % 1073741824) + 0 + 4294967296 * (d + 65536 * q) := by
      unfold encW
      dsimp only
      rw [if_pos rfl, if_pos ⟨ho, ⟨by omega, by omega⟩, by omega, by omega⟩]
      omega
    refine ⟨?_, e⟩
    rw [e, dec_struct ho hd hp (by omega), eqP_self]
    rfl
  · have ek : kdP ⟨2, o0, 0, 0, c, n, 0, false⟩ = 1 := rfl
    have eu : upP ⟨2, o0, 0, 0, c, n, 0, false⟩ = c + 8 * n := rfl
    rw [ek, eu] at hz ⊢
    have e : encW ⟨2, o, 0, 0, c, n, 0, false⟩ = 4 * (o % 1073741824) + 1 + 4294967296 * (c + 8 * n) := by
      unfold encW
      dsimp only
      rw [if_neg (by decide), if_pos rfl, if_pos ⟨ho, ⟨by omega, by omega⟩, by omega, by omega⟩]
    refine ⟨?_, e⟩
    rw [e, dec_list ho hc hn, eqP_self]
    rfl
theorem pnt_rng {p : Ptr} (h : pntOk p) : (p.kind = 1 ∨ p.kind = 2) ∧ (0 ≤ kdP p ∧ kdP p < 4) ∧ (0 ≤ upP p ∧ upP p < 4294967296) ∧ ((kdP p = 0 ∧ upP p = 0) ↔ (p.kind = 1 ∧ p.data + p.ptrs = 0)) := by
  obtain ⟨k, o0, d, q, c, n, s, b⟩ := p
  obtain ⟨h, hs, hb⟩ := h
  dsimp only at h hs hb
  subst hs hb
  rcases h with ⟨rfl, hd, hp, rfl, rfl⟩ | ⟨rfl, rfl, rfl, hc, hn⟩
  · have ek : kdP ⟨1, o0, d, q, 0, 0, 0, false⟩ = 0 := rfl
    have eu : upP ⟨1, o0, d, q, 0, 0, 0, false⟩ = d + 65536 * q := rfl
    rw [ek, eu]
    dsimp only
    omega
  · have ek : kdP ⟨2, o0, 0, 0, c, n, 0, false⟩ = 1 := rfl
    have eu : upP ⟨2, o0, 0, 0, c, n, 0, false⟩ = c + 8 * n := rfl
    rw [ek, eu]
    dsimp only
    omega
theorem c76 : Contract Try.prog cfg 76 spec76 := by
  refine make76 c75 c44 ?_
  intro a fr to p _ hp
  obtain ⟨⟨h, hf⟩, ht, hpn⟩ := hp
  dsimp only at h hf ht hpn
  obtain ⟨hk, r1, r2, r3⟩ := pnt_rng hpn
  have hh := hasN_iff.1 hf
  have hu := h.used
  have hl := h.len fr.segment
  have key : ∀ {q : Ptr} {o : Int}, (-536870912 ≤ o ∧ o < 536870912) → ¬(o = 0 ∧ kdP p = 0 ∧ upP p = 0) → q = Ptr.mk p.kind o p.data p.ptrs p.code p.count p.segment p.double → pwA fr.at_ to.at_ (kdP p) (upP p) = 4 * (o % 1073741824) + kdP p + 4294967296 * upP p →
      (pre75 (q, ())) ∧ (((eqP (decP (encW q)) q && !decide (Ptr.kind q = 4)) = true → pre44 ((a, ()), fr, ([encW q]), ())) ∧ (EndsQL cfg Try.f76.ntmps Try.f76.results.toList (res76 ((a, ()), fr, to, p, ())) (resX76 ((a, ()), fr, to, p, ())) (resL76 ((a, ()), fr, to, p, ())) .ret (⟨[(0, .agg [.mref (.A)]), (8, .c (.bool (bif (eqP (decP (encW q)) q && !decide (Ptr.kind q = 4)) then true else false)))], [], [(.A, LC.mk (U := U) .arena ([bif (eqP (decP (encW q)) q && !decide (Ptr.kind q = 4)) then (putsA ([encW q]) a (Spot.segment fr) (Spot.at_ fr)) else a]) 0)]⟩ : LSt U))) := by
    intro q o ho hz hq hw
    obtain ⟨e1, e2⟩ := enc_pnt hpn ho hz hq
    have hrw := pwA_word (a := fr.at_) (to := to.at_) r1 r2
    rw [e1, e2, ← hw]
    refine ⟨?_, fun _ => ⟨⟨h, fun x hx => ?_⟩, hf⟩, ?_⟩
    · show q.kind = 1 ∨ q.kind = 2
      rw [hq]
      exact hk
    · rw [List.mem_singleton.1 hx]
      exact hrw
    · (repeat' (first | exact trivial | exact rfl | apply And.intro))
  refine vc76 a fr to p _ ?_
  rintro y1 rfl y2 hy2 y3 hy3
  refine ⟨by ((unfold InR; omega)), by ((unfold InR; omega)), fun _ => ?_, fun hb => ?_, fun hb => ?_⟩
  · rcases hpn.1 with g | g <;> ((unfold InR; omega))
  · have hb : p.kind = 1 ∧ p.data + p.ptrs = 0 := by
      cases c1 : ((Ptr.kind p : Int) == 1) with
      | false => rw [c1] at hb; cases hb
      | true => rw [c1] at hb; exact ⟨eq_of_beq c1, eq_of_beq hb⟩
    obtain ⟨z1, z2⟩ := r3.2 hb
    refine key (o := -1) ⟨by decide, by decide⟩ (by omega) hy2 ?_
    unfold pwA
    rw [if_pos ⟨z1, z2⟩, z1, z2]
    decide
  · have hb : ¬(p.kind = 1 ∧ p.data + p.ptrs = 0) := by
      rintro ⟨q1, q2⟩
      simp [q1, q2] at hb
    have hz : ¬(kdP p = 0 ∧ upP p = 0) := fun q => hb (r3.1 q)
    refine key (o := to.at_ - y1.at_ - 1) ⟨by omega, by omega⟩ (fun q => hz q.2) hy3 ?_
    unfold pwA
    rw [if_neg hz]
    rfl
set_option maxHeartbeats 1000000 in
theorem c43 : Contract Try.prog cfg 43 spec43 := by
  refine make43 c76 c77 c78 c22 c75 c46 c44 ?_
  intro a fr to p _ hp
  obtain ⟨⟨h, hf⟩, ht, hpn, hs⟩ := hp
  dsimp only at h hf ht hpn hs
  obtain ⟨hk, r1, r2, r3⟩ := pnt_rng hpn
  have hfew := h.few
  have hresT : ∀ {c : Arena × Bool} {b : Bool} {r : Arena}, pointA a fr.segment fr.at_ to.segment to.at_ (kdP p) (upP p) = c → c = (r, b) →
      EndsQL cfg Try.f43.ntmps Try.f43.results.toList (res43 ((a, ()), fr, to, p, ())) (resX43 ((a, ()), fr, to, p, ())) (resL43 ((a, ()), fr, to, p, ())) .ret (⟨[(0, .agg [.mref (.A)]), (8, .c (.bool b))], [], [(.A, LC.mk (U := U) .arena ([r]) 0)]⟩ : LSt U) := by
    intro c b r h1 h2
    have e : pointA a fr.segment fr.at_ to.segment to.at_ (kdP p) (upP p) = (r, b) := h1.trans h2
    simp only [res43, resL43, e]
    (repeat' (first | exact trivial | exact rfl | apply And.intro))
  refine vc43 a fr to p _ ?_
  rintro y1 rfl y2 rfl y3 rfl y4 hy4 y5 hy5 y6 hy6 y7 rfl y8 hy8 y9 hy9 y10 hy10 y11 hy11
  refine ⟨fun _ => ?_, fun hb => ?_, fun hb => ?_⟩
  · rcases hpn.1 with g | g <;> ((unfold InR; omega))
  · have hb : y2.segment = y3.segment ∨ (kdP y1 = 0 ∧ upP y1 = 0) := by
      rw [r3]
      cases c0 : ((Spot.segment y2 : Int) == Spot.segment y3) with
      | true => exact .inl (eq_of_beq c0)
      | false =>
        rw [c0] at hb
        cases c1 : ((Ptr.kind y1 : Int) == 1) with
        | false => rw [c1] at hb; cases hb
        | true => rw [c1] at hb; exact .inr ⟨eq_of_beq c1, eq_of_beq hb⟩
    refine ⟨⟨⟨h, hf⟩, ht, hpn⟩, hresT rfl ?_⟩
    unfold pointA
    rw [if_pos hb]
  · have hb : ¬(y2.segment = y3.segment ∨ (kdP y1 = 0 ∧ upP y1 = 0)) := by
      rw [r3]
      rintro (q | ⟨q1, q2⟩)
      · simp [q] at hb
      · simp [q1, q2] at hb
    have hz : ¬((0 : Int) = 0 ∧ kdP y1 = 0 ∧ upP y1 = 0) := fun q => hb (.inr q.2)
    refine ⟨h, fun hi => ?_, fun hi => ?_⟩
    · have hin := in_has hi
      have hi1 : hasN (inA a y3.segment 1).segs y2.segment y2.at_ 1 = true := (gr_in a y3.segment 1).has hf
      have he := h.endA y3.segment
      have h5 : y5 = Spot.mk y3.segment (endA a y3.segment) := by rw [hy5, if_pos hi]; rfl
      have g8 : Gr (inA a y3.segment 1) y8 := by rw [hy8]; exact gr_put _ _ _ _
      have o8 : OkAr y8 := by
        rw [hy8, h5]
        exact (h.inn _ _).put _ _ (farW_word ⟨by dsimp only; omega, by dsimp only; omega⟩ ⟨by dsimp only; omega, by dsimp only; omega⟩)
      rw [h5] at hy8 ⊢
      refine ⟨⟨⟨h.inn _ _, hi1⟩, ⟨by dsimp only; omega, by dsimp only; omega⟩, by dsimp only; omega, by dsimp only; omega⟩, fun _ => ⟨⟨o8, g8.has hin⟩, ht, hpn⟩, hresT rfl ?_⟩
      unfold pointA
      rw [if_neg hb, if_pos hi, hy8]
      rfl
    · have ea : inA a y3.segment 1 = a := by unfold inA; rw [if_neg (by rw [hi]; decide)]
      obtain ⟨e1, e2⟩ := enc_pnt hpn (o := 0) ⟨by decide, by decide⟩ hz hy4
      have e2 : encW y4 = kdP y1 + 4294967296 * upP y1 := by rw [e2]; omega
      rw [ea] at hy6 hy8 hy10 hy11 ⊢
      rw [e1, e2]
      rw [e1] at hy11
      have hg2 := h.giveS 2
      have ht2 := h.giveT 2
      refine ⟨h, by show y4.kind = 1 ∨ y4.kind = 2; rw [hy4]; exact hk, ?_⟩
      cases hg : giveOk a 2 with
      | false =>
        refine ⟨fun q => (by cases q), fun q => (by cases q), fun q => (by cases q), fun q => (by cases q), hresT rfl ?_⟩
        unfold pointA
        rw [if_neg hb, if_neg (by rw [hi]; decide), if_neg (by rw [hg]; decide)]
        have : giveA a 2 = a := by unfold giveA; rw [if_neg (by rw [hg]; decide)]
        rw [this]
        rfl
      | true =>
        have e7 : y7 = Spot.mk (giveS a 2) (giveT a 2) := by rw [hy6, if_pos hg, if_pos hg]
        have hgh := give_has hg
        have hgs := give_s hg
        have hgh' := hasN_iff.1 hgh
        have gg := gr_give a 2
        rw [hg] at hy11
        simp only [cond_true] at hy11 ⊢
        have o10 : OkAr y10 := by
          rw [hy10, e7]
          exact (h.give 2).put _ _ (farW_word ⟨by dsimp only; omega, by dsimp only; omega⟩ ⟨by dsimp only; omega, by dsimp only; omega⟩)
        have g10 : Gr (giveA a 2) y10 := by rw [hy10]; exact gr_put _ _ _ _
        have w11 := farW_word (d := false) (s := y3.segment) (i := y3.at_) ⟨by omega, by omega⟩ ⟨by omega, by omega⟩
        have o11 : OkAr y11 := by rw [hy11]; exact o10.put _ _ w11
        have g11 : Gr y10 y11 := by rw [hy11]; exact gr_put _ _ _ _
        rw [e7] at hy9 hy10 hy11 ⊢
        have k1 : hasN y10.segs (giveS a 2) (giveT a 2) 1 = true := g10.has (hasN_iff.2 ⟨hgh'.1, hgh'.2.1, hgh'.2.2.1, by decide, by omega⟩)
        have k2 : hasN y11.segs (giveS a 2) (giveT a 2 + 1) 1 = true := (g10.trans g11).has (hasN_iff.2 ⟨hgh'.1, hgh'.2.1, by omega, by decide, by omega⟩)
        refine ⟨fun _ => ⟨⟨h.give 2, gg.has hf⟩, ⟨by dsimp only; omega, by dsimp only; omega⟩, by dsimp only; omega, by dsimp only; omega⟩, fun _ => ⟨⟨o10, k1⟩, ⟨by dsimp only; omega, by dsimp only; omega⟩, by dsimp only; omega, by dsimp only; omega⟩, fun _ => ?_, fun _ => ⟨⟨o11, fun x hx => ?_⟩, ?_⟩, hresT rfl ?_⟩
        · show InR (giveT a 2 + 1)
          ((unfold InR; omega))
        · rw [List.mem_singleton.1 hx]
          omega
        · rw [hy9]
          exact k2
        · unfold pointA
          rw [if_neg hb, if_neg (by rw [hi]; decide), if_pos hg, hy11, hy10, hy9]
          rfl
end Go.AM.Ytcljdbpmjdgooaa
