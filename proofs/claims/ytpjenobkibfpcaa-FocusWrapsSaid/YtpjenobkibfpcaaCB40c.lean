import Derived.Test.YtpjenobkibfpcaaCD25s
import Derived.Test.YtpjenobkibfpcaaCB25f
import Derived.Test.YtpjenobkibfpcaaKD24
import Derived.Test.YtpjenobkibfpcaaKB22c
set_option linter.unusedSimpArgs false
set_option linter.unusedVariables false
namespace Go.AM.Ytpjenobkibfpcaa
open Go.AM Go.Proofs
def args93 : ArgL (Int × Unit) := (.cons (aInt .i64) .nil)
def pre93 (a : Int × Unit) : Prop := True
noncomputable def res93 (a : Int × Unit) : V U := .c (.slice (U := U) .op (keepL a.1) (.own (.r 0 0)))
noncomputable def spec93 : Fs U := fs args93 (fun a => [pre93 a]) res93
def args56 : ArgL (Tree × List PStep × Edit × Unit) := (.cons (aEl .tree) (.cons (aSl .step) (.cons (aEl .edit) .nil)))
def pre56 (a : Tree × List PStep × Edit × Unit) : Prop := (mass a.1 ≤ 1000000000) ∧ (a.2.1).length ≤ 70
def mu56 (a : Tree × List PStep × Edit × Unit) : Nat := (a.2.1).length
noncomputable def res56 (a : Tree × List PStep × Edit × Unit) : V U := .tup [(true, [.int .i64 (Edit.kind ((wrapG opsA a.2.2.1 a.2.1 a.1).1)), .int .i64 (Tree.kind (Edit.old ((wrapG opsA a.2.2.1 a.2.1 a.1).1))), .slice (U := U) .u64 (Tree.words (Edit.old ((wrapG opsA a.2.2.1 a.2.1 a.1).1))) .unk, .slice (U := U) .tree (Tree.kids (Edit.old ((wrapG opsA a.2.2.1 a.2.1 a.1).1))) .unk, .int .i64 (Tree.kind (Edit.new ((wrapG opsA a.2.2.1 a.2.1 a.1).1))), .slice (U := U) .u64 (Tree.words (Edit.new ((wrapG opsA a.2.2.1 a.2.1 a.1).1))) .unk, .slice (U := U) .tree (Tree.kids (Edit.new ((wrapG opsA a.2.2.1 a.2.1 a.1).1))) .unk, .slice (U := U) .wedit (Edit.words ((wrapG opsA a.2.2.1 a.2.1 a.1).1)) .unk, .slice (U := U) .kid (Edit.kids ((wrapG opsA a.2.2.1 a.2.1 a.1).1)) .unk, .int .i64 (Edit.list ((wrapG opsA a.2.2.1 a.2.1 a.1).1)), .slice (U := U) .op (Edit.ops ((wrapG opsA a.2.2.1 a.2.1 a.1).1)) .unk]), (false, [.bool ((wrapG opsA a.2.2.1 a.2.1 a.1).2)])]
noncomputable def spec56 : Fs U := fs args56 (fun a => [pre56 a]) res56
def args95 : ArgL (Tree × Int × Unit) := (.cons (aEl .tree) (.cons (aInt .i64) .nil))
def pre95 (a : Tree × Int × Unit) : Prop := mass a.1 ≤ 1000000000
noncomputable def res95 (a : Tree × Int × Unit) : V U := .tup [(true, [.int .i64 (Tree.kind ((kidD a.1 a.2.1).1)), .slice (U := U) .u64 (Tree.words ((kidD a.1 a.2.1).1)) .unk, .slice (U := U) .tree (Tree.kids ((kidD a.1 a.2.1).1)) .unk]), (false, [.bool ((kidD a.1 a.2.1).2)])]
noncomputable def spec95 : Fs U := fs args95 (fun a => [pre95 a]) res95
def args58 : ArgL (Tree × List PStep × Edit × Unit) := (.cons (aEl .tree) (.cons (aSl .step) (.cons (aEl .edit) .nil)))
def pre58 (a : Tree × List PStep × Edit × Unit) : Prop := (mass a.1 ≤ 1000000000) ∧ (a.2.1).length ≤ 70
def mu58 (a : Tree × List PStep × Edit × Unit) : Nat := (a.2.1).length
noncomputable def res58 (a : Tree × List PStep × Edit × Unit) : V U := .tup [(true, [.int .i64 (Edit.kind ((wrapG opsB a.2.2.1 a.2.1 a.1).1)), .int .i64 (Tree.kind (Edit.old ((wrapG opsB a.2.2.1 a.2.1 a.1).1))), .slice (U := U) .u64 (Tree.words (Edit.old ((wrapG opsB a.2.2.1 a.2.1 a.1).1))) .unk, .slice (U := U) .tree (Tree.kids (Edit.old ((wrapG opsB a.2.2.1 a.2.1 a.1).1))) .unk, .int .i64 (Tree.kind (Edit.new ((wrapG opsB a.2.2.1 a.2.1 a.1).1))), .slice (U := U) .u64 (Tree.words (Edit.new ((wrapG opsB a.2.2.1 a.2.1 a.1).1))) .unk, .slice (U := U) .tree (Tree.kids (Edit.new ((wrapG opsB a.2.2.1 a.2.1 a.1).1))) .unk, .slice (U := U) .wedit (Edit.words ((wrapG opsB a.2.2.1 a.2.1 a.1).1)) .unk, .slice (U := U) .kid (Edit.kids ((wrapG opsB a.2.2.1 a.2.1 a.1).1)) .unk, .int .i64 (Edit.list ((wrapG opsB a.2.2.1 a.2.1 a.1).1)), .slice (U := U) .op (Edit.ops ((wrapG opsB a.2.2.1 a.2.1 a.1).1)) .unk]), (false, [.bool ((wrapG opsB a.2.2.1 a.2.1 a.1).2)])]
noncomputable def spec58 : Fs U := fs args58 (fun a => [pre58 a]) res58
def args74 : ArgL (List Op × Int × Unit) := (.cons (aSl .op) (.cons (aInt .i64) .nil))
def pre74 (a : List Op × Int × Unit) : Prop := okOs a.1 ∧ 0 ≤ a.2.1
noncomputable def res74 (a : List Op × Int × Unit) : V U := .tup [(true, [.int .i64 (OpOf.kind ((findO a.1 a.2.1 0 0).1)), .int .i64 (OpOf.n ((findO a.1 a.2.1 0 0).1)), .slice (U := U) .tree (OpOf.l ((findO a.1 a.2.1 0 0).1)) .unk, .int .i64 (Edit.kind (OpOf.e ((findO a.1 a.2.1 0 0).1))), .int .i64 (Tree.kind (Edit.old (OpOf.e ((findO a.1 a.2.1 0 0).1)))), .slice (U := U) .u64 (Tree.words (Edit.old (OpOf.e ((findO a.1 a.2.1 0 0).1)))) .unk, .slice (U := U) .tree (Tree.kids (Edit.old (OpOf.e ((findO a.1 a.2.1 0 0).1)))) .unk, .int .i64 (Tree.kind (Edit.new (OpOf.e ((findO a.1 a.2.1 0 0).1)))), .slice (U := U) .u64 (Tree.words (Edit.new (OpOf.e ((findO a.1 a.2.1 0 0).1)))) .unk, .slice (U := U) .tree (Tree.kids (Edit.new (OpOf.e ((findO a.1 a.2.1 0 0).1)))) .unk, .slice (U := U) .wedit (Edit.words (OpOf.e ((findO a.1 a.2.1 0 0).1))) .unk, .slice (U := U) .kid (Edit.kids (OpOf.e ((findO a.1 a.2.1 0 0).1))) .unk, .int .i64 (Edit.list (OpOf.e ((findO a.1 a.2.1 0 0).1))), .slice (U := U) .op (Edit.ops (OpOf.e ((findO a.1 a.2.1 0 0).1))) .unk]), (false, [.int .i64 ((findO a.1 a.2.1 0 0).2.1)]), (false, [.bool ((findO a.1 a.2.1 0 0).2.2)])]
noncomputable def spec74 : Fs U := fs args74 (fun a => [pre74 a]) res74
def args73 : ArgM (Kid × (Int × Int × Unit) × Unit) := (.cons (aEl .kid) (.obj 0 (.cons (cInt .i64) (.cons (cInt .i64) .nil)) .nil))
def pre73 (a : Kid × (Int × Int × Unit) × Unit) : Prop := True
noncomputable def res73 (a : Kid × (Int × Int × Unit) × Unit) : V U := .c (.bool (decide (KidOf.at_ a.1 = a.2.1.2.1)))
noncomputable def resX73 (a : Kid × (Int × Int × Unit) × Unit) : List (List (C U)) := [[.int .i64 a.2.1.1, .int .i64 a.2.1.2.1]]
noncomputable def spec73 : Fs U := fsX args73 (fun a => [pre73 a]) res73 resX73
def args72 : ArgM (List Kid × (Int × Int × Unit) × Unit) := (.cons (aSl .kid) (.clo 73 0 (.cons (cInt .i64) (.cons (cInt .i64) .nil)) .nil))
def pre72 (a : List Kid × (Int × Int × Unit) × Unit) : Prop := (a.1).length ≤ 1000000000000
noncomputable def res72 (a : List Kid × (Int × Int × Unit) × Unit) : V U := .c (.int .i64 (idxAt a.1 a.2.1.2.1 0))
noncomputable def resX72 (a : List Kid × (Int × Int × Unit) × Unit) : List (List (C U)) := [[.int .i64 a.2.1.1, .int .i64 a.2.1.2.1]]
noncomputable def spec72 : Fs U := fsX args72 (fun a => [pre72 a]) res72 resX72
noncomputable def know93 : List (FuncId × Fs U) := []
def lv93 : Lives U := fun i => match i with
  | 0 => ([(0, [])], [])
  | 1 => ([(0, []), (4, [])], [])
  | 2 => ([(2, [])], [])
  | 3 => ([(2, [])], [])
  | _ => ([], [])
noncomputable abbrev A93 (p : List Nat) := awp cfg (know know93) (drawOk cfg (know know93)) Try.f93.ntmps lv93 (cd Try.f93 p)
theorem vc93 (n : Int) (Q : AExit → LSt U → Prop) (h : (((((n : Int) == 0) = true → (Q .ret (⟨[(2, .c (.nils))], [], []⟩ : LSt U))) ∧ (((n : Int) == 0) = false → (Q .ret (⟨[(2, .c (.slice (U := U) .op ([(OpOf.mk 0 n ([]) (Edit.mk 0 (Tree.mk 0 ([]) ([])) (Tree.mk 0 ([]) ([])) ([]) ([]) 0 ([])))]) .full))], [], []⟩ : LSt U)))))) :
    A93 [] (⟨[(0, .c (.int .i64 n))], [], []⟩ : LSt U) Q :=
  Eq.mpr (by kernel_rfl) h
def Body93 (n : Int)  : Prop := awp cfg (know (know93)) (drawOk cfg (know (know93))) Try.f93.ntmps lv93 (cd Try.f93 []) (entry (args93.can (n, ())) []) (EndsQ cfg Try.f93.ntmps Try.f93.results.toList (res93 (n, ())) [])
theorem make93 (hb : ∀ (n : Int) (_ : Unit), pre93 (n, ()) → Body93 n) : Contract Try.prog cfg 93 spec93 :=
  contract_flat (l := []) cfgOk rfl (trivial) lv93 Try.func93 rfl rfl 1 (fun _ => rfl) (by decide) (fun ⟨n, _⟩ => hb n ())
noncomputable def know56 (N : Nat) : List (FuncId × Fs U) := (56, fs args56 (fun a => [pre56 a, mu56 a < N]) res56) :: [(91, spec91), (92, spec92), (93, spec93)]
def lv56 : Lives U := fun i => match i with
  | 0 => ([(1, []), (3, []), (5, []), (6, [])], [((.loc 3), []), ((.loc 5), []), ((.loc 6), [])])
  | 1 => ([(1, []), (3, []), (5, []), (6, []), (16, [])], [((.loc 3), []), ((.loc 5), []), ((.loc 6), [])])
  | 2 => ([(6, []), (7, [])], [((.loc 6), [])])
  | 3 => ([(1, []), (3, []), (5, []), (6, []), (8, [])], [((.loc 3), []), ((.loc 5), []), ((.loc 6), []), ((.loc 8), [])])
  | 4 => ([(1, []), (3, []), (5, []), (6, []), (8, []), (31, [])], [((.loc 3), []), ((.loc 5), []), ((.loc 6), []), ((.loc 8), [])])
  | 5 => ([(6, []), (7, [])], [((.loc 6), [])])
  | 6 => ([(1, []), (3, []), (5, []), (6, []), (8, []), (33, [])], [((.loc 3), []), ((.loc 5), []), ((.loc 6), []), ((.loc 8), [])])
  | 7 => ([(6, []), (8, []), (9, []), (10, [])], [((.loc 6), []), ((.loc 8), []), ((.loc 9), [])])
  | 8 => ([(6, []), (8, []), (9, []), (10, []), (59, [])], [((.loc 6), []), ((.loc 8), []), ((.loc 9), [])])
  | 9 => ([(6, []), (7, [])], [((.loc 6), [])])
  | 10 => ([(6, []), (7, [])], [((.loc 6), [])])
  | 11 => ([(1, []), (3, []), (5, []), (6, []), (8, []), (68, [])], [((.loc 3), []), ((.loc 5), []), ((.loc 6), []), ((.loc 8), [])])
  | 12 => ([(3, []), (6, []), (8, []), (11, []), (12, [])], [((.loc 3), []), ((.loc 6), []), ((.loc 8), []), ((.loc 11), [])])
  | 13 => ([(3, []), (6, []), (8, []), (11, []), (12, []), (99, [])], [((.loc 3), []), ((.loc 6), []), ((.loc 8), []), ((.loc 11), [])])
  | 14 => ([(6, []), (7, [])], [((.loc 6), [])])
  | 15 => ([(3, []), (6, []), (8, []), (13, [])], [((.loc 3), []), ((.loc 6), []), ((.loc 8), [])])
  | 16 => ([(6, []), (7, [])], [((.loc 6), [])])
  | 17 => ([(6, []), (7, [])], [((.loc 6), [])])
  | _ => ([], [])
noncomputable abbrev A56 (N : Nat) (p : List Nat) := awp cfg (know (know56 N)) (drawOk cfg (know (know56 N))) Try.f56.ntmps lv56 (cd Try.f56 p)
theorem vc56 (N : Nat) (t : Tree) (l : List PStep) (e : Edit) (Q : AExit → LSt U → Prop) (h : ∀ y_1, y_1 = (e) → ∀ y_2, y_2 = (t) → ∀ y_3, y_3 = (List.getD l (Int.toNat 0) (PStep.mk 0 0)) → ∀ y_4, y_4 = ((kidAt y_2 (PStep.at_ y_3))) → ∀ y_5, y_5 = (List.getD (Tree.kids t) (Int.toNat (PStep.at_ y_3)) Tree.nil) → ∀ y_6, y_6 = (y_5) → ∀ y_7, y_7 = (((wrapG opsA y_1 (List.drop (Int.toNat 1) l) y_4).1)) → ∀ y_8, y_8 = (((wrapG opsA y_1 (List.drop (Int.toNat 1) l) y_6).1)) → ((((((l.length : Int) : Int) == 0) = true → (Q .ret (⟨[(6, .ptr (.loc 6) 0), (7, .c (.bool (((Tree.kind t) : Int) != 10)))], [((.loc 6), [.int .i64 (Edit.kind e), .int .i64 (Tree.kind (Edit.old e)), .slice (U := U) .u64 (Tree.words (Edit.old e)) .unk, .slice (U := U) .tree (Tree.kids (Edit.old e)) .unk, .int .i64 (Tree.kind (Edit.new e)), .slice (U := U) .u64 (Tree.words (Edit.new e)) .unk, .slice (U := U) .tree (Tree.kids (Edit.new e)) .unk, .slice (U := U) .wedit (Edit.words e) .unk, .slice (U := U) .kid (Edit.kids e) .unk, .int .i64 (Edit.list e), .slice (U := U) .op (Edit.ops e) .unk])], []⟩ : LSt U))) ∧ ((((l.length : Int) : Int) == 0) = false → ((0 : Int) ≤ 0 ∧ 0 < (l.length : Int)) ∧ ((Tr ((!(((PStep.kind y_3) : Int) != 0)) = true)) ∧ (Tr ((!(((PStep.kind y_3) : Int) != 0)) = true)) ∧ (((((PStep.kind y_3) : Int) != 0) = false → (!(((PStep.kind y_3) : Int) != 0)) = true)) ∧ (((bif (((PStep.kind y_3) : Int) != 0) then true else (decide (((PStep.at_ y_3) : Int) < 0))) = true → (Q .ret (⟨[(6, .ptr (.loc 6) 0), (7, .c (.bool false))], [((.loc 6), [.int .i64 0, .int .i64 0, .nils, .nils, .int .i64 0, .nils, .nils, .nils, .nils, .int .i64 0, .nils])], []⟩ : LSt U))) ∧ ((bif (((PStep.kind y_3) : Int) != 0) then true else (decide (((PStep.at_ y_3) : Int) < 0))) = false → (Tr ((((Tree.kind t) : Int) == 1) = true)) ∧ (Tr ((((Tree.kind t) : Int) == 1) = true)) ∧ ((Tr ((((Tree.kind t) : Int) == 1) = true))) ∧ (((bif (((Tree.kind t) : Int) == 1) then (decide (((PStep.at_ y_3) : Int) < 65535)) else false) = true → (pre91 (y_2, (PStep.at_ y_3), ())) ∧ ((0 : Int) ≤ 1 ∧ 1 ≤ (l.length : Int)) ∧ (pre56 (y_4, (List.drop (Int.toNat 1) l), y_1, ())) ∧ (mu56 (y_4, (List.drop (Int.toNat 1) l), y_1, ()) < N) ∧ ((Tr ((!(!((wrapG opsA y_1 (List.drop (Int.toNat 1) l) y_4).2))) = true)) ∧ (Tr ((!(!((wrapG opsA y_1 (List.drop (Int.toNat 1) l) y_4).2))) = true)) ∧ (((!((wrapG opsA y_1 (List.drop (Int.toNat 1) l) y_4).2)) = false → (!(!((wrapG opsA y_1 (List.drop (Int.toNat 1) l) y_4).2))) = true)) ∧ (((bif (!((wrapG opsA y_1 (List.drop (Int.toNat 1) l) y_4).2)) then true else (((Edit.kind ((wrapG opsA y_1 (List.drop (Int.toNat 1) l) y_4).1)) : Int) == 0)) = true → (Q .ret (⟨[(6, .ptr (.loc 6) 0), (7, .c (.bool ((wrapG opsA y_1 (List.drop (Int.toNat 1) l) y_4).2)))], [((.loc 6), [.int .i64 0, .int .i64 0, .nils, .nils, .int .i64 0, .nils, .nils, .nils, .nils, .int .i64 0, .nils])], []⟩ : LSt U))) ∧ ((bif (!((wrapG opsA y_1 (List.drop (Int.toNat 1) l) y_4).2)) then true else (((Edit.kind ((wrapG opsA y_1 (List.drop (Int.toNat 1) l) y_4).1)) : Int) == 0)) = false → (Q .ret (⟨[(6, .ptr (.loc 6) 0), (7, .c (.bool true))], [((.loc 6), [.int .i64 2, .int .i64 0, .nils, .nils, .int .i64 0, .nils, .nils, .nils, .slice (U := U) .kid ([(KidOf.mk (PStep.at_ y_3) y_7)]) .full, .int .i64 0, .nils])], []⟩ : LSt U)))))) ∧ ((bif (((Tree.kind t) : Int) == 1) then (decide (((PStep.at_ y_3) : Int) < 65535)) else false) = false → (pre92 ((Tree.kind t), ())) ∧ (Tr ((decide (2 ≤ (Tree.kind t) ∧ (Tree.kind t) ≤ 9)) = true)) ∧ (Tr ((decide (2 ≤ (Tree.kind t) ∧ (Tree.kind t) ≤ 9)) = true)) ∧ (Tr ((decide (2 ≤ (Tree.kind t) ∧ (Tree.kind t) ≤ 9)) = true)) ∧ (Tr ((decide (2 ≤ (Tree.kind t) ∧ (Tree.kind t) ≤ 9)) = true)) ∧ (Tr ((decide (2 ≤ (Tree.kind t) ∧ (Tree.kind t) ≤ 9)) = true)) ∧ ((Tr ((decide (2 ≤ (Tree.kind t) ∧ (Tree.kind t) ≤ 9)) = true))) ∧ (((bif (decide (2 ≤ (Tree.kind t) ∧ (Tree.kind t) ≤ 9)) then (decide (((PStep.at_ y_3) : Int) < ((Tree.kids t).length : Int))) else false) = true → ((0 : Int) ≤ (PStep.at_ y_3) ∧ (PStep.at_ y_3) < ((Tree.kids t).length : Int)) ∧ ((0 : Int) ≤ 1 ∧ 1 ≤ (l.length : Int)) ∧ (pre56 (y_6, (List.drop (Int.toNat 1) l), y_1, ())) ∧ (mu56 (y_6, (List.drop (Int.toNat 1) l), y_1, ()) < N) ∧ ((Tr ((!(!((wrapG opsA y_1 (List.drop (Int.toNat 1) l) y_6).2))) = true)) ∧ (Tr ((!(!((wrapG opsA y_1 (List.drop (Int.toNat 1) l) y_6).2))) = true)) ∧ (((!((wrapG opsA y_1 (List.drop (Int.toNat 1) l) y_6).2)) = false → (!(!((wrapG opsA y_1 (List.drop (Int.toNat 1) l) y_6).2))) = true)) ∧ (((bif (!((wrapG opsA y_1 (List.drop (Int.toNat 1) l) y_6).2)) then true else (((Edit.kind ((wrapG opsA y_1 (List.drop (Int.toNat 1) l) y_6).1)) : Int) == 0)) = true → (Q .ret (⟨[(6, .ptr (.loc 6) 0), (7, .c (.bool ((wrapG opsA y_1 (List.drop (Int.toNat 1) l) y_6).2)))], [((.loc 6), [.int .i64 0, .int .i64 0, .nils, .nils, .int .i64 0, .nils, .nils, .nils, .nils, .int .i64 0, .nils])], []⟩ : LSt U))) ∧ ((bif (!((wrapG opsA y_1 (List.drop (Int.toNat 1) l) y_6).2)) then true else (((Edit.kind ((wrapG opsA y_1 (List.drop (Int.toNat 1) l) y_6).1)) : Int) == 0)) = false → (pre93 ((PStep.at_ y_3), ())) ∧ (((keepL (PStep.at_ y_3)).length + ([(OpOf.mk 3 0 ([]) y_8)]).length) * 240 ≤ 140737488355328) ∧ ((InR ((((Tree.kids t).length : Int) : Int) - (PStep.at_ y_3))) ∧ (InR ((((((Tree.kids t).length : Int) : Int) - (PStep.at_ y_3)) : Int) - 1)) ∧ (pre93 (((((((Tree.kids t).length : Int) : Int) - (PStep.at_ y_3)) : Int) - 1), ())) ∧ ((((keepL (PStep.at_ y_3)) ++ ([(OpOf.mk 3 0 ([]) y_8)])).length + (keepL ((((((Tree.kids t).length : Int) : Int) - (PStep.at_ y_3)) : Int) - 1)).length) * 240 ≤ 140737488355328) ∧ (Q .ret (⟨[(6, .ptr (.loc 6) 0), (7, .c (.bool true))], [((.loc 6), [.int .i64 3, .int .i64 0, .nils, .nils, .int .i64 0, .nils, .nils, .nils, .nils, .int .i64 (Tree.kind t), .slice (U := U) .op (((keepL (PStep.at_ y_3)) ++ ([(OpOf.mk 3 0 ([]) y_8)])) ++ (keepL ((((((Tree.kids t).length : Int) : Int) - (PStep.at_ y_3)) : Int) - 1))) (.own (.l 6 10))])], []⟩ : LSt U))))))) ∧ ((bif (decide (2 ≤ (Tree.kind t) ∧ (Tree.kind t) ≤ 9)) then (decide (((PStep.at_ y_3) : Int) < ((Tree.kids t).length : Int))) else false) = false → (Q .ret (⟨[(6, .ptr (.loc 6) 0), (7, .c (.bool false))], [((.loc 6), [.int .i64 0, .int .i64 0, .nils, .nils, .int .i64 0, .nils, .nils, .nils, .nils, .int .i64 0, .nils])], []⟩ : LSt U))))))))))))) :
    A56 N [] (⟨[(0, .agg [.int .i64 (Tree.kind t), .slice (U := U) .u64 (Tree.words t) .unk, .slice (U := U) .tree (Tree.kids t) .unk]), (1, .c (.slice (U := U) .step l .unk)), (2, .agg [.int .i64 (Edit.kind e), .int .i64 (Tree.kind (Edit.old e)), .slice (U := U) .u64 (Tree.words (Edit.old e)) .unk, .slice (U := U) .tree (Tree.kids (Edit.old e)) .unk, .int .i64 (Tree.kind (Edit.new e)), .slice (U := U) .u64 (Tree.words (Edit.new e)) .unk, .slice (U := U) .tree (Tree.kids (Edit.new e)) .unk, .slice (U := U) .wedit (Edit.words e) .unk, .slice (U := U) .kid (Edit.kids e) .unk, .int .i64 (Edit.list e), .slice (U := U) .op (Edit.ops e) .unk])], [], []⟩ : LSt U) Q :=
  Eq.mpr (by kernel_rfl) (h _ (reEdit_eq _) _ (reTree_eq _) _ rfl _ (reTree_eq _) _ rfl _ (reTree_eq _) _ (reEdit_eq _) _ (reEdit_eq _))
def Body56 (N : Nat) (t : Tree) (l : List PStep) (e : Edit)  : Prop := awp cfg (know (know56 N)) (drawOk cfg (know (know56 N))) Try.f56.ntmps lv56 (cd Try.f56 []) (entry (args56.can (t, l, e, ())) []) (EndsQ cfg Try.f56.ntmps Try.f56.results.toList (res56 (t, l, e, ())) [])
theorem make56 (c91 : Contract Try.prog cfg 91 spec91) (c92 : Contract Try.prog cfg 92 spec92) (c93 : Contract Try.prog cfg 93 spec93) (hb : ∀ (N : Nat) (t : Tree) (l : List PStep) (e : Edit) (_ : Unit), pre56 (t, l, e, ()) → mu56 (t, l, e, ()) < N + 1 → Body56 N t l e) : Contract Try.prog cfg 56 spec56 :=
  contract_rec (μ := mu56) (l := [(91, spec91), (92, spec92), (93, spec93)]) cfgOk rfl (⟨c91, c92, c93, trivial⟩) lv56 Try.func56 rfl rfl 3 (fun _ => rfl) (by decide) (fun N ⟨t, l, e, _⟩ => hb N t l e ())
noncomputable def know95 : List (FuncId × Fs U) := []
def lv95 : Lives U := fun i => match i with
  | 0 => ([(1, []), (2, []), (4, [])], [((.loc 2), []), ((.loc 4), [])])
  | 1 => ([(1, []), (2, []), (4, []), (26, [])], [((.loc 2), []), ((.loc 4), [])])
  | 2 => ([(4, []), (5, [])], [((.loc 4), [])])
  | 3 => ([(1, []), (2, []), (4, []), (32, [])], [((.loc 2), []), ((.loc 4), [])])
  | 4 => ([(4, []), (5, [])], [((.loc 4), [])])
  | 5 => ([(4, []), (5, [])], [((.loc 4), [])])
  | _ => ([], [])
noncomputable abbrev A95 (p : List Nat) := awp cfg (know know95) (drawOk cfg (know know95)) Try.f95.ntmps lv95 (cd Try.f95 p)
theorem vc95 (t : Tree) (at_ : Int) (Q : AExit → LSt U → Prop) (h : ∀ y_1, y_1 = (List.getD (Tree.kids t) (Int.toNat at_) Tree.nil) → ((Tr ((!(decide ((at_ : Int) < 0))) = true)) ∧ (Tr ((!(decide ((at_ : Int) < 0))) = true)) ∧ (Tr ((!(decide ((at_ : Int) < 0))) = true)) ∧ (Tr (((!(decide ((at_ : Int) < 0))) && (((Tree.kind t) : Int) == 1)) = true)) ∧ ((!(decide ((at_ : Int) < 0))) = true → (True → (!(decide ((at_ : Int) < 0))) = true)) ∧ ((!(decide ((at_ : Int) < 0))) = true → ((((Tree.kind t) : Int) == 1) = true → ((!(decide ((at_ : Int) < 0))) && (((Tree.kind t) : Int) == 1)) = true)) ∧ (((decide ((at_ : Int) < 0)) = false → (!(decide ((at_ : Int) < 0))) = true)) ∧ (Tr ((!(bif (decide ((at_ : Int) < 0)) then true else (bif (((Tree.kind t) : Int) == 1) then (decide ((65535 : Int) ≤ at_)) else false))) = true)) ∧ (Tr ((!(bif (decide ((at_ : Int) < 0)) then true else (bif (((Tree.kind t) : Int) == 1) then (decide ((65535 : Int) ≤ at_)) else false))) = true)) ∧ (((bif (decide ((at_ : Int) < 0)) then true else (bif (((Tree.kind t) : Int) == 1) then (decide ((65535 : Int) ≤ at_)) else false)) = false → (!(bif (decide ((at_ : Int) < 0)) then true else (bif (((Tree.kind t) : Int) == 1) then (decide ((65535 : Int) ≤ at_)) else false))) = true)) ∧ (Tr ((!(bif (bif (decide ((at_ : Int) < 0)) then true else (bif (((Tree.kind t) : Int) == 1) then (decide ((65535 : Int) ≤ at_)) else false)) then true else (decide (((Tree.kind t) : Int) < 1)))) = true)) ∧ (Tr ((!(bif (bif (decide ((at_ : Int) < 0)) then true else (bif (((Tree.kind t) : Int) == 1) then (decide ((65535 : Int) ≤ at_)) else false)) then true else (decide (((Tree.kind t) : Int) < 1)))) = true)) ∧ (((bif (bif (decide ((at_ : Int) < 0)) then true else (bif (((Tree.kind t) : Int) == 1) then (decide ((65535 : Int) ≤ at_)) else false)) then true else (decide (((Tree.kind t) : Int) < 1))) = false → (!(bif (bif (decide ((at_ : Int) < 0)) then true else (bif (((Tree.kind t) : Int) == 1) then (decide ((65535 : Int) ≤ at_)) else false)) then true else (decide (((Tree.kind t) : Int) < 1)))) = true)) ∧ (((bif (bif (bif (decide ((at_ : Int) < 0)) then true else (bif (((Tree.kind t) : Int) == 1) then (decide ((65535 : Int) ≤ at_)) else false)) then true else (decide (((Tree.kind t) : Int) < 1))) then true else (decide ((9 : Int) < (Tree.kind t)))) = true → (Q .ret (⟨[(4, .ptr (.loc 4) 0), (5, .c (.bool false))], [((.loc 4), [.int .i64 0, .nils, .nils])], []⟩ : LSt U))) ∧ ((bif (bif (bif (decide ((at_ : Int) < 0)) then true else (bif (((Tree.kind t) : Int) == 1) then (decide ((65535 : Int) ≤ at_)) else false)) then true else (decide (((Tree.kind t) : Int) < 1))) then true else (decide ((9 : Int) < (Tree.kind t)))) = false → (((decide ((at_ : Int) < ((Tree.kids t).length : Int))) = true → ((0 : Int) ≤ at_ ∧ at_ < ((Tree.kids t).length : Int)) ∧ (Q .ret (⟨[(4, .ptr (.loc 4) 0), (5, .c (.bool true))], [((.loc 4), [.int .i64 (Tree.kind y_1), .slice (U := U) .u64 (Tree.words y_1) .unk, .slice (U := U) .tree (Tree.kids y_1) .unk])], []⟩ : LSt U))) ∧ ((decide ((at_ : Int) < ((Tree.kids t).length : Int))) = false → (Q .ret (⟨[(4, .ptr (.loc 4) 0), (5, .c (.bool (((Tree.kind t) : Int) == 1)))], [((.loc 4), [.int .i64 0, .nils, .nils])], []⟩ : LSt U)))))))) :
    A95 [] (⟨[(0, .agg [.int .i64 (Tree.kind t), .slice (U := U) .u64 (Tree.words t) .unk, .slice (U := U) .tree (Tree.kids t) .unk]), (1, .c (.int .i64 at_))], [], []⟩ : LSt U) Q :=
  Eq.mpr (by kernel_rfl) (h _ rfl)
def Body95 (t : Tree) (at_ : Int)  : Prop := awp cfg (know (know95)) (drawOk cfg (know (know95))) Try.f95.ntmps lv95 (cd Try.f95 []) (entry (args95.can (t, at_, ())) []) (EndsQ cfg Try.f95.ntmps Try.f95.results.toList (res95 (t, at_, ())) [])
theorem make95 (hb : ∀ (t : Tree) (at_ : Int) (_ : Unit), pre95 (t, at_, ()) → Body95 t at_) : Contract Try.prog cfg 95 spec95 :=
  contract_flat (l := []) cfgOk rfl (trivial) lv95 Try.func95 rfl rfl 2 (fun _ => rfl) (by decide) (fun ⟨t, at_, _⟩ => hb t at_ ())
noncomputable def know58 (N : Nat) : List (FuncId × Fs U) := (58, fs args58 (fun a => [pre58 a, mu58 a < N]) res58) :: [(95, spec95)]
def lv58 : Lives U := fun i => match i with
  | 0 => ([(1, []), (3, []), (5, []), (6, [])], [((.loc 3), []), ((.loc 5), []), ((.loc 6), [])])
  | 1 => ([(1, []), (3, []), (5, []), (6, []), (16, [])], [((.loc 3), []), ((.loc 5), []), ((.loc 6), [])])
  | 2 => ([(6, []), (7, [])], [((.loc 6), [])])
  | 3 => ([(1, []), (3, []), (5, []), (6, []), (8, []), (9, [])], [((.loc 3), []), ((.loc 5), []), ((.loc 6), []), ((.loc 8), [])])
  | 4 => ([(1, []), (3, []), (5, []), (6, []), (8, []), (38, [])], [((.loc 3), []), ((.loc 5), []), ((.loc 6), []), ((.loc 8), [])])
  | 5 => ([(6, []), (7, [])], [((.loc 6), [])])
  | 6 => ([(1, []), (3, []), (6, []), (10, []), (11, [])], [((.loc 3), []), ((.loc 6), []), ((.loc 10), [])])
  | 7 => ([(1, []), (3, []), (6, []), (10, []), (11, []), (54, [])], [((.loc 3), []), ((.loc 6), []), ((.loc 10), [])])
  | 8 => ([(6, []), (7, [])], [((.loc 6), [])])
  | 9 => ([(1, []), (3, []), (6, []), (10, []), (59, [])], [((.loc 3), []), ((.loc 6), []), ((.loc 10), [])])
  | 10 => ([(6, []), (7, [])], [((.loc 6), [])])
  | 11 => ([(1, []), (3, []), (6, []), (10, []), (12, [])], [((.loc 3), []), ((.loc 6), []), ((.loc 10), []), ((.loc 12), [])])
  | 12 => ([(1, []), (3, []), (6, []), (10, []), (12, []), (13, [])], [((.loc 3), []), ((.loc 6), []), ((.loc 10), []), ((.loc 12), [.any, .any, .any, .any, .any, .any, .any, .any, .any, .any, .own .op])])
  | 13 => ([(1, []), (3, []), (6, []), (10, []), (12, []), (13, []), (75, [])], [((.loc 3), []), ((.loc 6), []), ((.loc 10), []), ((.loc 12), [])])
  | 14 => ([(1, []), (3, []), (6, []), (10, []), (12, []), (13, [])], [((.loc 3), []), ((.loc 6), []), ((.loc 10), []), ((.loc 12), [.any, .any, .any, .any, .any, .any, .any, .any, .any, .any, .own .op])])
  | 15 => ([(1, []), (3, []), (6, []), (10, []), (12, []), (13, []), (83, [])], [((.loc 3), []), ((.loc 6), []), ((.loc 10), []), ((.loc 12), [])])
  | 16 => ([(1, []), (3, []), (6, []), (10, []), (12, []), (13, [])], [((.loc 3), []), ((.loc 6), []), ((.loc 10), []), ((.loc 12), [])])
  | 17 => ([(1, []), (3, []), (6, []), (10, []), (12, []), (13, [])], [((.loc 3), []), ((.loc 6), []), ((.loc 10), []), ((.loc 12), [])])
  | 18 => ([(6, []), (7, [])], [((.loc 6), [])])
  | _ => ([], [])
noncomputable def head58_0 (t : Tree) (l : List PStep) (e : Edit) (x13 : Int) (ml12_10 : List Op) : LSt U := (⟨[(1, .c (.slice (U := U) .step l .unk)), (3, .ptr (.loc 3) 0), (6, .ptr (.loc 6) 0), (10, .ptr (.loc 10) 0), (12, .ptr (.loc 12) 0), (13, .c (.int .i64 x13))], [((.loc 3), [.int .i64 (Tree.kind t), .slice (U := U) .u64 (Tree.words t) .unk, .slice (U := U) .tree (Tree.kids t) .unk]), ((.loc 6), [.int .i64 0, .int .i64 0, .nils, .nils, .int .i64 0, .nils, .nils, .nils, .nils, .int .i64 0, .nils]), ((.loc 10), [.int .i64 (Edit.kind ((wrapG opsB (Edit.mk (Edit.kind e) (Tree.mk (Tree.kind (Edit.old e)) (Tree.words (Edit.old e)) (Tree.kids (Edit.old e))) (Tree.mk (Tree.kind (Edit.new e)) (Tree.words (Edit.new e)) (Tree.kids (Edit.new e))) (Edit.words e) (Edit.kids e) (Edit.list e) (Edit.ops e)) (List.drop (Int.toNat 1) l) (Tree.mk (Tree.kind ((kidD (Tree.mk (Tree.kind t) (Tree.words t) (Tree.kids t)) (PStep.at_ (List.getD l (Int.toNat 0) (PStep.mk 0 0)))).1)) (Tree.words ((kidD (Tree.mk (Tree.kind t) (Tree.words t) (Tree.kids t)) (PStep.at_ (List.getD l (Int.toNat 0) (PStep.mk 0 0)))).1)) (Tree.kids ((kidD (Tree.mk (Tree.kind t) (Tree.words t) (Tree.kids t)) (PStep.at_ (List.getD l (Int.toNat 0) (PStep.mk 0 0)))).1)))).1)), .int .i64 (Tree.kind (Edit.old ((wrapG opsB (Edit.mk (Edit.kind e) (Tree.mk (Tree.kind (Edit.old e)) (Tree.words (Edit.old e)) (Tree.kids (Edit.old e))) (Tree.mk (Tree.kind (Edit.new e)) (Tree.words (Edit.new e)) (Tree.kids (Edit.new e))) (Edit.words e) (Edit.kids e) (Edit.list e) (Edit.ops e)) (List.drop (Int.toNat 1) l) (Tree.mk (Tree.kind ((kidD (Tree.mk (Tree.kind t) (Tree.words t) (Tree.kids t)) (PStep.at_ (List.getD l (Int.toNat 0) (PStep.mk 0 0)))).1)) (Tree.words ((kidD (Tree.mk (Tree.kind t) (Tree.words t) (Tree.kids t)) (PStep.at_ (List.getD l (Int.toNat 0) (PStep.mk 0 0)))).1)) (Tree.kids ((kidD (Tree.mk (Tree.kind t) (Tree.words t) (Tree.kids t)) (PStep.at_ (List.getD l (Int.toNat 0) (PStep.mk 0 0)))).1)))).1))), .slice (U := U) .u64 (Tree.words (Edit.old ((wrapG opsB (Edit.mk (Edit.kind e) (Tree.mk (Tree.kind (Edit.old e)) (Tree.words (Edit.old e)) (Tree.kids (Edit.old e))) (Tree.mk (Tree.kind (Edit.new e)) (Tree.words (Edit.new e)) (Tree.kids (Edit.new e))) (Edit.words e) (Edit.kids e) (Edit.list e) (Edit.ops e)) (List.drop (Int.toNat 1) l) (Tree.mk (Tree.kind ((kidD (Tree.mk (Tree.kind t) (Tree.words t) (Tree.kids t)) (PStep.at_ (List.getD l (Int.toNat 0) (PStep.mk 0 0)))).1)) (Tree.words ((kidD (Tree.mk (Tree.kind t) (Tree.words t) (Tree.kids t)) (PStep.at_ (List.getD l (Int.toNat 0) (PStep.mk 0 0)))).1)) (Tree.kids ((kidD (Tree.mk (Tree.kind t) (Tree.words t) (Tree.kids t)) (PStep.at_ (List.getD l (Int.toNat 0) (PStep.mk 0 0)))).1)))).1))) .unk, .slice (U := U) .tree (Tree.kids (Edit.old ((wrapG opsB (Edit.mk (Edit.kind e) (Tree.mk (Tree.kind (Edit.old e)) (Tree.words (Edit.old e)) (Tree.kids (Edit.old e))) (Tree.mk (Tree.kind (Edit.new e)) (Tree.words (Edit.new e)) (Tree.kids (Edit.new e))) (Edit.words e) (Edit.kids e) (Edit.list e) (Edit.ops e)) (List.drop (Int.toNat 1) l) (Tree.mk (Tree.kind ((kidD (Tree.mk (Tree.kind t) (Tree.words t) (Tree.kids t)) (PStep.at_ (List.getD l (Int.toNat 0) (PStep.mk 0 0)))).1)) (Tree.words ((kidD (Tree.mk (Tree.kind t) (Tree.words t) (Tree.kids t)) (PStep.at_ (List.getD l (Int.toNat 0) (PStep.mk 0 0)))).1)) (Tree.kids ((kidD (Tree.mk (Tree.kind t) (Tree.words t) (Tree.kids t)) (PStep.at_ (List.getD l (Int.toNat 0) (PStep.mk 0 0)))).1)))).1))) .unk, .int .i64 (Tree.kind (Edit.new ((wrapG opsB (Edit.mk (Edit.kind e) (Tree.mk (Tree.kind (Edit.old e)) (Tree.words (Edit.old e)) (Tree.kids (Edit.old e))) (Tree.mk (Tree.kind (Edit.new e)) (Tree.words (Edit.new e)) (Tree.kids (Edit.new e))) (Edit.words e) (Edit.kids e) (Edit.list e) (Edit.ops e)) (List.drop (Int.toNat 1) l) (Tree.mk (Tree.kind ((kidD (Tree.mk (Tree.kind t) (Tree.words t) (Tree.kids t)) (PStep.at_ (List.getD l (Int.toNat 0) (PStep.mk 0 0)))).1)) (Tree.words ((kidD (Tree.mk (Tree.kind t) (Tree.words t) (Tree.kids t)) (PStep.at_ (List.getD l (Int.toNat 0) (PStep.mk 0 0)))).1)) (Tree.kids ((kidD (Tree.mk (Tree.kind t) (Tree.words t) (Tree.kids t)) (PStep.at_ (List.getD l (Int.toNat 0) (PStep.mk 0 0)))).1)))).1))), .slice (U := U) .u64 (Tree.words (Edit.new ((wrapG opsB (Edit.mk (Edit.kind e) (Tree.mk (Tree.kind (Edit.old e)) (Tree.words (Edit.old e)) (Tree.kids (Edit.old e))) (Tree.mk (Tree.kind (Edit.new e)) (Tree.words (Edit.new e)) (Tree.kids (Edit.new e))) (Edit.words e) (Edit.kids e) (Edit.list e) (Edit.ops e)) (List.drop (Int.toNat 1) l) (Tree.mk (Tree.kind ((kidD (Tree.mk (Tree.kind t) (Tree.words t) (Tree.kids t)) (PStep.at_ (List.getD l (Int.toNat 0) (PStep.mk 0 0)))).1)) (Tree.words ((kidD (Tree.mk (Tree.kind t) (Tree.words t) (Tree.kids t)) (PStep.at_ (List.getD l (Int.toNat 0) (PStep.mk 0 0)))).1)) (Tree.kids ((kidD (Tree.mk (Tree.kind t) (Tree.words t) (Tree.kids t)) (PStep.at_ (List.getD l (Int.toNat 0) (PStep.mk 0 0)))).1)))).1))) .unk, .slice (U := U) .tree (Tree.kids (Edit.new ((wrapG opsB (Edit.mk (Edit.kind e) (Tree.mk (Tree.kind (Edit.old e)) (Tree.words (Edit.old e)) (Tree.kids (Edit.old e))) (Tree.mk (Tree.kind (Edit.new e)) (Tree.words (Edit.new e)) (Tree.kids (Edit.new e))) (Edit.words e) (Edit.kids e) (Edit.list e) (Edit.ops e)) (List.drop (Int.toNat 1) l) (Tree.mk (Tree.kind ((kidD (Tree.mk (Tree.kind t) (Tree.words t) (Tree.kids t)) (PStep.at_ (List.getD l (Int.toNat 0) (PStep.mk 0 0)))).1)) (Tree.words ((kidD (Tree.mk (Tree.kind t) (Tree.words t) (Tree.kids t)) (PStep.at_ (List.getD l (Int.toNat 0) (PStep.mk 0 0)))).1)) (Tree.kids ((kidD (Tree.mk (Tree.kind t) (Tree.words t) (Tree.kids t)) (PStep.at_ (List.getD l (Int.toNat 0) (PStep.mk 0 0)))).1)))).1))) .unk, .slice (U := U) .wedit (Edit.words ((wrapG opsB (Edit.mk (Edit.kind e) (Tree.mk (Tree.kind (Edit.old e)) (Tree.words (Edit.old e)) (Tree.kids (Edit.old e))) (Tree.mk (Tree.kind (Edit.new e)) (Tree.words (Edit.new e)) (Tree.kids (Edit.new e))) (Edit.words e) (Edit.kids e) (Edit.list e) (Edit.ops e)) (List.drop (Int.toNat 1) l) (Tree.mk (Tree.kind ((kidD (Tree.mk (Tree.kind t) (Tree.words t) (Tree.kids t)) (PStep.at_ (List.getD l (Int.toNat 0) (PStep.mk 0 0)))).1)) (Tree.words ((kidD (Tree.mk (Tree.kind t) (Tree.words t) (Tree.kids t)) (PStep.at_ (List.getD l (Int.toNat 0) (PStep.mk 0 0)))).1)) (Tree.kids ((kidD (Tree.mk (Tree.kind t) (Tree.words t) (Tree.kids t)) (PStep.at_ (List.getD l (Int.toNat 0) (PStep.mk 0 0)))).1)))).1)) .unk, .slice (U := U) .kid (Edit.kids ((wrapG opsB (Edit.mk (Edit.kind e) (Tree.mk (Tree.kind (Edit.old e)) (Tree.words (Edit.old e)) (Tree.kids (Edit.old e))) (Tree.mk (Tree.kind (Edit.new e)) (Tree.words (Edit.new e)) (Tree.kids (Edit.new e))) (Edit.words e) (Edit.kids e) (Edit.list e) (Edit.ops e)) (List.drop (Int.toNat 1) l) (Tree.mk (Tree.kind ((kidD (Tree.mk (Tree.kind t) (Tree.words t) (Tree.kids t)) (PStep.at_ (List.getD l (Int.toNat 0) (PStep.mk 0 0)))).1)) (Tree.words ((kidD (Tree.mk (Tree.kind t) (Tree.words t) (Tree.kids t)) (PStep.at_ (List.getD l (Int.toNat 0) (PStep.mk 0 0)))).1)) (Tree.kids ((kidD (Tree.mk (Tree.kind t) (Tree.words t) (Tree.kids t)) (PStep.at_ (List.getD l (Int.toNat 0) (PStep.mk 0 0)))).1)))).1)) .unk, .int .i64 (Edit.list ((wrapG opsB (Edit.mk (Edit.kind e) (Tree.mk (Tree.kind (Edit.old e)) (Tree.words (Edit.old e)) (Tree.kids (Edit.old e))) (Tree.mk (Tree.kind (Edit.new e)) (Tree.words (Edit.new e)) (Tree.kids (Edit.new e))) (Edit.words e) (Edit.kids e) (Edit.list e) (Edit.ops e)) (List.drop (Int.toNat 1) l) (Tree.mk (Tree.kind ((kidD (Tree.mk (Tree.kind t) (Tree.words t) (Tree.kids t)) (PStep.at_ (List.getD l (Int.toNat 0) (PStep.mk 0 0)))).1)) (Tree.words ((kidD (Tree.mk (Tree.kind t) (Tree.words t) (Tree.kids t)) (PStep.at_ (List.getD l (Int.toNat 0) (PStep.mk 0 0)))).1)) (Tree.kids ((kidD (Tree.mk (Tree.kind t) (Tree.words t) (Tree.kids t)) (PStep.at_ (List.getD l (Int.toNat 0) (PStep.mk 0 0)))).1)))).1)), .slice (U := U) .op (Edit.ops ((wrapG opsB (Edit.mk (Edit.kind e) (Tree.mk (Tree.kind (Edit.old e)) (Tree.words (Edit.old e)) (Tree.kids (Edit.old e))) (Tree.mk (Tree.kind (Edit.new e)) (Tree.words (Edit.new e)) (Tree.kids (Edit.new e))) (Edit.words e) (Edit.kids e) (Edit.list e) (Edit.ops e)) (List.drop (Int.toNat 1) l) (Tree.mk (Tree.kind ((kidD (Tree.mk (Tree.kind t) (Tree.words t) (Tree.kids t)) (PStep.at_ (List.getD l (Int.toNat 0) (PStep.mk 0 0)))).1)) (Tree.words ((kidD (Tree.mk (Tree.kind t) (Tree.words t) (Tree.kids t)) (PStep.at_ (List.getD l (Int.toNat 0) (PStep.mk 0 0)))).1)) (Tree.kids ((kidD (Tree.mk (Tree.kind t) (Tree.words t) (Tree.kids t)) (PStep.at_ (List.getD l (Int.toNat 0) (PStep.mk 0 0)))).1)))).1)) .unk]), ((.loc 12), [.int .i64 3, .int .i64 0, .nils, .nils, .int .i64 0, .nils, .nils, .nils, .nils, .int .i64 (Tree.kind t), .slice (U := U) .op ml12_10 (.own (.l 12 10))])], []⟩ : LSt U)
noncomputable abbrev A58 (N : Nat) (p : List Nat) := awp cfg (know (know58 N)) (drawOk cfg (know (know58 N))) Try.f58.ntmps lv58 (cd Try.f58 p)
noncomputable abbrev S58 (N : Nat) (p : List Nat) := seqK cfg (know (know58 N)) (drawOk cfg (know (know58 N))) Try.f58.ntmps lv58 (cd Try.f58 p)
theorem vc58 (N : Nat) (t : Tree) (l : List PStep) (e : Edit) (Q : AExit → LSt U → Prop) (h : ∀ y_1, y_1 = (e) → ∀ y_2, y_2 = (t) → ∀ y_3, y_3 = (List.getD l (Int.toNat 0) (PStep.mk 0 0)) → ∀ y_4, y_4 = (((kidD y_2 (PStep.at_ y_3)).1)) → ∀ y_5, y_5 = (((wrapG opsB y_1 (List.drop (Int.toNat 1) l) y_4).1)) → ((((((l.length : Int) : Int) == 0) = true → (Q .ret (⟨[(6, .ptr (.loc 6) 0), (7, .c (.bool (((Tree.kind t) : Int) != 10)))], [((.loc 6), [.int .i64 (Edit.kind e), .int .i64 (Tree.kind (Edit.old e)), .slice (U := U) .u64 (Tree.words (Edit.old e)) .unk, .slice (U := U) .tree (Tree.kids (Edit.old e)) .unk, .int .i64 (Tree.kind (Edit.new e)), .slice (U := U) .u64 (Tree.words (Edit.new e)) .unk, .slice (U := U) .tree (Tree.kids (Edit.new e)) .unk, .slice (U := U) .wedit (Edit.words e) .unk, .slice (U := U) .kid (Edit.kids e) .unk, .int .i64 (Edit.list e), .slice (U := U) .op (Edit.ops e) .unk])], []⟩ : LSt U))) ∧ ((((l.length : Int) : Int) == 0) = false → ((0 : Int) ≤ 0 ∧ 0 < (l.length : Int)) ∧ (pre95 (y_2, (PStep.at_ y_3), ())) ∧ ((Tr ((!(!((kidD y_2 (PStep.at_ y_3)).2))) = true)) ∧ ((!(!((kidD y_2 (PStep.at_ y_3)).2))) = true → (0 : Int) ≤ 0 ∧ 0 < (l.length : Int)) ∧ (Tr ((!(!((kidD y_2 (PStep.at_ y_3)).2))) = true)) ∧ (Tr ((!(!((kidD y_2 (PStep.at_ y_3)).2))) = true)) ∧ (Tr ((!(!((kidD y_2 (PStep.at_ y_3)).2))) = true)) ∧ (((!((kidD y_2 (PStep.at_ y_3)).2)) = false → (!(!((kidD y_2 (PStep.at_ y_3)).2))) = true)) ∧ (((bif (!((kidD y_2 (PStep.at_ y_3)).2)) then true else (((PStep.kind y_3) : Int) != 0)) = true → (Q .ret (⟨[(6, .ptr (.loc 6) 0), (7, .c (.bool false))], [((.loc 6), [.int .i64 0, .int .i64 0, .nils, .nils, .int .i64 0, .nils, .nils, .nils, .nils, .int .i64 0, .nils])], []⟩ : LSt U))) ∧ ((bif (!((kidD y_2 (PStep.at_ y_3)).2)) then true else (((PStep.kind y_3) : Int) != 0)) = false → ((0 : Int) ≤ 1 ∧ 1 ≤ (l.length : Int)) ∧ (pre58 (y_4, (List.drop (Int.toNat 1) l), y_1, ())) ∧ (mu58 (y_4, (List.drop (Int.toNat 1) l), y_1, ()) < N) ∧ ((Tr ((!(!((wrapG opsB y_1 (List.drop (Int.toNat 1) l) y_4).2))) = true)) ∧ (Tr ((!(!((wrapG opsB y_1 (List.drop (Int.toNat 1) l) y_4).2))) = true)) ∧ (((!((wrapG opsB y_1 (List.drop (Int.toNat 1) l) y_4).2)) = false → (!(!((wrapG opsB y_1 (List.drop (Int.toNat 1) l) y_4).2))) = true)) ∧ (((bif (!((wrapG opsB y_1 (List.drop (Int.toNat 1) l) y_4).2)) then true else (((Edit.kind ((wrapG opsB y_1 (List.drop (Int.toNat 1) l) y_4).1)) : Int) == 0)) = true → (Q .ret (⟨[(6, .ptr (.loc 6) 0), (7, .c (.bool ((wrapG opsB y_1 (List.drop (Int.toNat 1) l) y_4).2)))], [((.loc 6), [.int .i64 0, .int .i64 0, .nils, .nils, .int .i64 0, .nils, .nils, .nils, .nils, .int .i64 0, .nils])], []⟩ : LSt U))) ∧ ((bif (!((wrapG opsB y_1 (List.drop (Int.toNat 1) l) y_4).2)) then true else (((Edit.kind ((wrapG opsB y_1 (List.drop (Int.toNat 1) l) y_4).1)) : Int) == 0)) = false → (((((Tree.kind t) : Int) == 1) = true → ((0 : Int) ≤ 0 ∧ 0 < (l.length : Int)) ∧ (Q .ret (⟨[(6, .ptr (.loc 6) 0), (7, .c (.bool true))], [((.loc 6), [.int .i64 2, .int .i64 0, .nils, .nils, .int .i64 0, .nils, .nils, .nils, .slice (U := U) .kid ([(KidOf.mk (PStep.at_ y_3) y_5)]) .full, .int .i64 0, .nils])], []⟩ : LSt U))) ∧ ((((Tree.kind t) : Int) == 1) = false → ((LoopWp (A58 N [1, 1, 1, 1, 1, 1, 1, 1, 0, 1, 0, 0]) (head58_0 t l e 0 ([])) (AExit.inBlock 0 (S58 N [1, 1, 1, 1, 1, 1, 1, 1, 1] Q)))))))))))))))) :
    A58 N [] (⟨[(0, .agg [.int .i64 (Tree.kind t), .slice (U := U) .u64 (Tree.words t) .unk, .slice (U := U) .tree (Tree.kids t) .unk]), (1, .c (.slice (U := U) .step l .unk)), (2, .agg [.int .i64 (Edit.kind e), .int .i64 (Tree.kind (Edit.old e)), .slice (U := U) .u64 (Tree.words (Edit.old e)) .unk, .slice (U := U) .tree (Tree.kids (Edit.old e)) .unk, .int .i64 (Tree.kind (Edit.new e)), .slice (U := U) .u64 (Tree.words (Edit.new e)) .unk, .slice (U := U) .tree (Tree.kids (Edit.new e)) .unk, .slice (U := U) .wedit (Edit.words e) .unk, .slice (U := U) .kid (Edit.kids e) .unk, .int .i64 (Edit.list e), .slice (U := U) .op (Edit.ops e) .unk])], [], []⟩ : LSt U) Q :=
  Eq.mpr (by kernel_rfl) (h _ (reEdit_eq _) _ (reTree_eq _) _ rfl _ (reTree_eq _) _ (reEdit_eq _))
theorem vc58_l0 (N : Nat) (t : Tree) (l : List PStep) (e : Edit) (x13 : Int) (ml12_10 : List Op) (N0 : LSt U → Prop) (Q : AExit → LSt U → Prop) (h : ∀ y_1, y_1 = (e) → ∀ y_2, y_2 = (t) → ∀ y_3, y_3 = (List.getD l (Int.toNat 0) (PStep.mk 0 0)) → ∀ y_4, y_4 = (((kidD y_2 (PStep.at_ y_3)).1)) → ∀ y_5, y_5 = (((wrapG opsB y_1 (List.drop (Int.toNat 1) l) y_4).1)) → (((decide ((x13 : Int) < ((Tree.kids t).length : Int))) = true → ((0 : Int) ≤ 0 ∧ 0 < (l.length : Int)) ∧ ((((x13 : Int) == (PStep.at_ y_3)) = true → ((ml12_10.length + ([(OpOf.mk 3 0 ([]) y_5)]).length) * 240 ≤ 140737488355328) ∧ ((InR ((x13 : Int) + 1)) ∧ (N0 (head58_0 t l e ((x13 : Int) + 1) (ml12_10 ++ ([(OpOf.mk 3 0 ([]) y_5)])))))) ∧ (((x13 : Int) == (PStep.at_ y_3)) = false → ((ml12_10.length + ([(OpOf.mk 0 1 ([]) (Edit.mk 0 (Tree.mk 0 ([]) ([])) (Tree.mk 0 ([]) ([])) ([]) ([]) 0 ([])))]).length) * 240 ≤ 140737488355328) ∧ ((InR ((x13 : Int) + 1)) ∧ (N0 (head58_0 t l e ((x13 : Int) + 1) (ml12_10 ++ ([(OpOf.mk 0 1 ([]) (Edit.mk 0 (Tree.mk 0 ([]) ([])) (Tree.mk 0 ([]) ([])) ([]) ([]) 0 ([])))])))))))) ∧ ((decide ((x13 : Int) < ((Tree.kids t).length : Int))) = false → (Q .ret (⟨[(6, .ptr (.loc 6) 0), (7, .c (.bool true))], [((.loc 6), [.int .i64 3, .int .i64 0, .nils, .nils, .int .i64 0, .nils, .nils, .nils, .nils, .int .i64 (Tree.kind t), .slice (U := U) .op ml12_10 (.own (.l 6 10))])], []⟩ : LSt U))))) :
    A58 N [1, 1, 1, 1, 1, 1, 1, 1, 0, 1, 0, 0] (head58_0 t l e x13 ml12_10) (AExit.then N0 (AExit.inBlock 0 (S58 N [1, 1, 1, 1, 1, 1, 1, 1, 1] Q))) :=
  Eq.mpr (by kernel_rfl) (h _ (reEdit_eq _) _ (reTree_eq _) _ rfl _ (reTree_eq _) _ (reEdit_eq _))
def Body58 (N : Nat) (t : Tree) (l : List PStep) (e : Edit)  : Prop := awp cfg (know (know58 N)) (drawOk cfg (know (know58 N))) Try.f58.ntmps lv58 (cd Try.f58 []) (entry (args58.can (t, l, e, ())) []) (EndsQ cfg Try.f58.ntmps Try.f58.results.toList (res58 (t, l, e, ())) [])
theorem make58 (c95 : Contract Try.prog cfg 95 spec95) (hb : ∀ (N : Nat) (t : Tree) (l : List PStep) (e : Edit) (_ : Unit), pre58 (t, l, e, ()) → mu58 (t, l, e, ()) < N + 1 → Body58 N t l e) : Contract Try.prog cfg 58 spec58 :=
  contract_rec (μ := mu58) (l := [(95, spec95)]) cfgOk rfl (⟨c95, trivial⟩) lv58 Try.func58 rfl rfl 3 (fun _ => rfl) (by decide) (fun N ⟨t, l, e, _⟩ => hb N t l e ())
noncomputable def know74 : List (FuncId × Fs U) := []
def lv74 : Lives U := fun i => match i with
  | 0 => ([(0, []), (1, []), (4, [])], [((.loc 4), [])])
  | 1 => ([(0, []), (1, []), (4, []), (7, []), (8, [])], [((.loc 4), [])])
  | 2 => ([(1, []), (4, []), (7, []), (8, []), (12, []), (13, []), (14, [])], [((.loc 4), [])])
  | 3 => ([(1, []), (4, []), (7, []), (8, []), (12, []), (13, []), (14, []), (15, [])], [((.loc 4), [])])
  | 4 => ([(1, []), (4, []), (7, []), (8, []), (10, []), (12, []), (13, []), (14, [])], [((.loc 4), []), ((.loc 10), [])])
  | 5 => ([(1, []), (4, []), (7, []), (8, []), (10, []), (11, []), (12, []), (13, []), (14, [])], [((.loc 4), []), ((.loc 10), [])])
  | 6 => ([(1, []), (4, []), (7, []), (8, []), (10, []), (11, []), (12, []), (13, []), (14, []), (26, [])], [((.loc 4), []), ((.loc 10), [])])
  | 7 => ([(1, []), (4, []), (7, []), (8, []), (10, []), (11, []), (12, []), (13, []), (14, [])], [((.loc 4), []), ((.loc 10), [])])
  | 8 => ([(1, []), (4, []), (7, []), (8, []), (10, []), (11, []), (12, []), (13, []), (14, []), (29, [])], [((.loc 4), []), ((.loc 10), [])])
  | 9 => ([(1, []), (4, []), (7, []), (8, []), (12, []), (13, []), (14, [])], [((.loc 4), [])])
  | 10 => ([(1, []), (4, []), (7, []), (8, []), (10, []), (11, []), (12, []), (13, []), (14, []), (37, [])], [((.loc 4), []), ((.loc 10), [])])
  | 11 => ([(4, []), (5, []), (6, [])], [((.loc 4), [])])
  | 12 => ([(1, []), (4, []), (7, []), (8, []), (10, []), (11, []), (12, []), (13, []), (14, [])], [((.loc 4), []), ((.loc 10), [])])
  | 13 => ([(1, []), (4, []), (7, []), (8, []), (11, []), (12, []), (13, []), (14, []), (52, [])], [((.loc 4), [])])
  | 14 => ([(1, []), (4, []), (7, []), (8, []), (12, []), (13, []), (14, [])], [((.loc 4), [])])
  | 15 => ([(1, []), (4, []), (7, []), (8, []), (12, []), (13, []), (14, [])], [((.loc 4), [])])
  | 16 => ([(4, []), (5, []), (6, [])], [((.loc 4), [])])
  | _ => ([], [])
noncomputable def head74_0 (l : List Op) (at_ : Int) (x8 : Int) (x14 : Int) (x7 : Int) : LSt U := (⟨[(1, .c (.int .i64 at_)), (4, .ptr (.loc 4) 0), (7, .c (.int .i64 x7)), (8, .c (.int .i64 x8)), (12, .c (.slice (U := U) .op l .unk)), (13, .c (.int .i64 (l.length : Int))), (14, .c (.int .i64 x14))], [((.loc 4), [.int .i64 0, .int .i64 0, .nils, .int .i64 0, .int .i64 0, .nils, .nils, .int .i64 0, .nils, .nils, .nils, .nils, .int .i64 0, .nils])], []⟩ : LSt U)
noncomputable abbrev A74 (p : List Nat) := awp cfg (know know74) (drawOk cfg (know know74)) Try.f74.ntmps lv74 (cd Try.f74 p)
noncomputable abbrev S74 (p : List Nat) := seqK cfg (know know74) (drawOk cfg (know know74)) Try.f74.ntmps lv74 (cd Try.f74 p)
theorem vc74 (l : List Op) (at_ : Int) (Q : AExit → LSt U → Prop) (h : (((LoopWp (A74 [1, 1, 0, 1, 0, 0]) (head74_0 l at_ 0 0 0) (AExit.inBlock 0 (S74 [1, 1, 1] Q)))))) :
    A74 [] (⟨[(0, .c (.slice (U := U) .op l .unk)), (1, .c (.int .i64 at_))], [], []⟩ : LSt U) Q :=
  Eq.mpr (by kernel_rfl) h
theorem vc74_l0 (l : List Op) (at_ : Int) (x8 : Int) (x14 : Int) (x7 : Int) (N0 : LSt U → Prop) (Q : AExit → LSt U → Prop) (h : ∀ y_1, y_1 = (List.getD l (Int.toNat x14) Op.nil) → (((decide ((x14 : Int) < (l.length : Int))) = true → ((0 : Int) ≤ x14 ∧ x14 < (l.length : Int)) ∧ ((InR (((OpOf.n y_1) : Int) + ((OpOf.l y_1).length : Int))) ∧ ((((((OpOf.kind y_1) : Int) == 3) = true → ((((((OpOf.kind y_1) : Int) == 2) = true → (InR ((x8 : Int) + 1)) ∧ ((InR ((x14 : Int) + 1)) ∧ (N0 (head74_0 l at_ ((x8 : Int) + 1) ((x14 : Int) + 1) x7)))) ∧ ((((OpOf.kind y_1) : Int) == 2) = false → (InR ((x7 : Int) + 1)) ∧ (((decide ((at_ : Int) < ((x7 : Int) + 1))) = true → (InR ((x8 : Int) + at_)) ∧ (InR ((((x8 : Int) + at_) : Int) - x7)) ∧ (Q .ret (⟨[(4, .ptr (.loc 4) 0), (5, .c (.int .i64 ((((x8 : Int) + at_) : Int) - x7))), (6, .c (.bool (((OpOf.kind y_1) : Int) != 1)))], [((.loc 4), [.int .i64 (OpOf.kind y_1), .int .i64 (OpOf.n y_1), .slice (U := U) .tree (OpOf.l y_1) .unk, .int .i64 (Edit.kind (OpOf.e y_1)), .int .i64 (Tree.kind (Edit.old (OpOf.e y_1))), .slice (U := U) .u64 (Tree.words (Edit.old (OpOf.e y_1))) .unk, .slice (U := U) .tree (Tree.kids (Edit.old (OpOf.e y_1))) .unk, .int .i64 (Tree.kind (Edit.new (OpOf.e y_1))), .slice (U := U) .u64 (Tree.words (Edit.new (OpOf.e y_1))) .unk, .slice (U := U) .tree (Tree.kids (Edit.new (OpOf.e y_1))) .unk, .slice (U := U) .wedit (Edit.words (OpOf.e y_1)) .unk, .slice (U := U) .kid (Edit.kids (OpOf.e y_1)) .unk, .int .i64 (Edit.list (OpOf.e y_1)), .slice (U := U) .op (Edit.ops (OpOf.e y_1)) .unk])], []⟩ : LSt U))) ∧ ((decide ((at_ : Int) < ((x7 : Int) + 1))) = false → (InR ((x7 : Int) + 1)) ∧ ((((((OpOf.kind y_1) : Int) != 1) = true → (InR ((x8 : Int) + 1)) ∧ ((InR ((x14 : Int) + 1)) ∧ (N0 (head74_0 l at_ ((x8 : Int) + 1) ((x14 : Int) + 1) ((x7 : Int) + 1))))) ∧ ((((OpOf.kind y_1) : Int) != 1) = false → (InR ((x14 : Int) + 1)) ∧ (N0 (head74_0 l at_ x8 ((x14 : Int) + 1) ((x7 : Int) + 1)))))))))))) ∧ ((((OpOf.kind y_1) : Int) == 3) = false → (((((OpOf.kind y_1) : Int) == 2) = true → (InR ((x8 : Int) + (((OpOf.n y_1) : Int) + ((OpOf.l y_1).length : Int)))) ∧ ((InR ((x14 : Int) + 1)) ∧ (N0 (head74_0 l at_ ((x8 : Int) + (((OpOf.n y_1) : Int) + ((OpOf.l y_1).length : Int))) ((x14 : Int) + 1) x7)))) ∧ ((((OpOf.kind y_1) : Int) == 2) = false → (InR ((x7 : Int) + (((OpOf.n y_1) : Int) + ((OpOf.l y_1).length : Int)))) ∧ (((decide ((at_ : Int) < ((x7 : Int) + (((OpOf.n y_1) : Int) + ((OpOf.l y_1).length : Int))))) = true → (InR ((x8 : Int) + at_)) ∧ (InR ((((x8 : Int) + at_) : Int) - x7)) ∧ (Q .ret (⟨[(4, .ptr (.loc 4) 0), (5, .c (.int .i64 ((((x8 : Int) + at_) : Int) - x7))), (6, .c (.bool (((OpOf.kind y_1) : Int) != 1)))], [((.loc 4), [.int .i64 (OpOf.kind y_1), .int .i64 (OpOf.n y_1), .slice (U := U) .tree (OpOf.l y_1) .unk, .int .i64 (Edit.kind (OpOf.e y_1)), .int .i64 (Tree.kind (Edit.old (OpOf.e y_1))), .slice (U := U) .u64 (Tree.words (Edit.old (OpOf.e y_1))) .unk, .slice (U := U) .tree (Tree.kids (Edit.old (OpOf.e y_1))) .unk, .int .i64 (Tree.kind (Edit.new (OpOf.e y_1))), .slice (U := U) .u64 (Tree.words (Edit.new (OpOf.e y_1))) .unk, .slice (U := U) .tree (Tree.kids (Edit.new (OpOf.e y_1))) .unk, .slice (U := U) .wedit (Edit.words (OpOf.e y_1)) .unk, .slice (U := U) .kid (Edit.kids (OpOf.e y_1)) .unk, .int .i64 (Edit.list (OpOf.e y_1)), .slice (U := U) .op (Edit.ops (OpOf.e y_1)) .unk])], []⟩ : LSt U))) ∧ ((decide ((at_ : Int) < ((x7 : Int) + (((OpOf.n y_1) : Int) + ((OpOf.l y_1).length : Int))))) = false → (InR ((x7 : Int) + (((OpOf.n y_1) : Int) + ((OpOf.l y_1).length : Int)))) ∧ ((((((OpOf.kind y_1) : Int) != 1) = true → (InR ((x8 : Int) + (((OpOf.n y_1) : Int) + ((OpOf.l y_1).length : Int)))) ∧ ((InR ((x14 : Int) + 1)) ∧ (N0 (head74_0 l at_ ((x8 : Int) + (((OpOf.n y_1) : Int) + ((OpOf.l y_1).length : Int))) ((x14 : Int) + 1) ((x7 : Int) + (((OpOf.n y_1) : Int) + ((OpOf.l y_1).length : Int))))))) ∧ ((((OpOf.kind y_1) : Int) != 1) = false → (InR ((x14 : Int) + 1)) ∧ (N0 (head74_0 l at_ x8 ((x14 : Int) + 1) ((x7 : Int) + (((OpOf.n y_1) : Int) + ((OpOf.l y_1).length : Int))))))))))))))))) ∧ ((decide ((x14 : Int) < (l.length : Int))) = false → (Q .ret (⟨[(4, .ptr (.loc 4) 0), (5, .c (.int .i64 0)), (6, .c (.bool false))], [((.loc 4), [.int .i64 0, .int .i64 0, .nils, .int .i64 0, .int .i64 0, .nils, .nils, .int .i64 0, .nils, .nils, .nils, .nils, .int .i64 0, .nils])], []⟩ : LSt U))))) :
    A74 [1, 1, 0, 1, 0, 0] (head74_0 l at_ x8 x14 x7) (AExit.then N0 (AExit.inBlock 0 (S74 [1, 1, 1] Q))) :=
  Eq.mpr (by kernel_rfl) (h _ rfl)
def Body74 (l : List Op) (at_ : Int)  : Prop := awp cfg (know (know74)) (drawOk cfg (know (know74))) Try.f74.ntmps lv74 (cd Try.f74 []) (entry (args74.can (l, at_, ())) []) (EndsQ cfg Try.f74.ntmps Try.f74.results.toList (res74 (l, at_, ())) [])
theorem make74 (hb : ∀ (l : List Op) (at_ : Int) (_ : Unit), pre74 (l, at_, ()) → Body74 l at_) : Contract Try.prog cfg 74 spec74 :=
  contract_flat (l := []) cfgOk rfl (trivial) lv74 Try.func74 rfl rfl 2 (fun _ => rfl) (by decide) (fun ⟨l, at_, _⟩ => hb l at_ ())
noncomputable def know73 : List (FuncId × Fs U) := []
def lv73 : Lives U := fun i => match i with
  | 0 => ([(1, []), (2, [])], [((.loc 2), []), ((.x 0), [])])
  | 1 => ([(3, [])], [((.x 0), [])])
  | _ => ([], [])
noncomputable abbrev A73 (p : List Nat) := awp cfg (know know73) (drawOk cfg (know know73)) Try.f73.ntmps lv73 (cd Try.f73 p)
theorem vc73 (k : Kid) (kind : Int) (at_ : Int) (Q : AExit → LSt U → Prop) (h : ((Q .ret (⟨[(3, .c (.bool (((KidOf.at_ k) : Int) == at_)))], [((.x 0), [.int .i64 kind, .int .i64 at_])], []⟩ : LSt U)))) :
    A73 [] (⟨[(0, .agg [.int .i64 (KidOf.at_ k), .int .i64 (Edit.kind (KidOf.e k)), .int .i64 (Tree.kind (Edit.old (KidOf.e k))), .slice (U := U) .u64 (Tree.words (Edit.old (KidOf.e k))) .unk, .slice (U := U) .tree (Tree.kids (Edit.old (KidOf.e k))) .unk, .int .i64 (Tree.kind (Edit.new (KidOf.e k))), .slice (U := U) .u64 (Tree.words (Edit.new (KidOf.e k))) .unk, .slice (U := U) .tree (Tree.kids (Edit.new (KidOf.e k))) .unk, .slice (U := U) .wedit (Edit.words (KidOf.e k)) .unk, .slice (U := U) .kid (Edit.kids (KidOf.e k)) .unk, .int .i64 (Edit.list (KidOf.e k)), .slice (U := U) .op (Edit.ops (KidOf.e k)) .unk]), (1, .ptr (.x 0) 0)], [((.x 0), [.int .i64 kind, .int .i64 at_])], []⟩ : LSt U) Q :=
  Eq.mpr (by kernel_rfl) h
def Body73 (k : Kid) (kind : Int) (at_ : Int)  : Prop := awp cfg (know (know73)) (drawOk cfg (know (know73))) Try.f73.ntmps lv73 (cd Try.f73 []) (entry (args73.can (k, (kind, at_, ()), ())) (args73.canX (k, (kind, at_, ()), ()))) (EndsQ cfg Try.f73.ntmps Try.f73.results.toList (res73 (k, (kind, at_, ()), ())) (resX73 (k, (kind, at_, ()), ())))
theorem make73 (hb : ∀ (k : Kid) (kind : Int) (at_ : Int) (_ : Unit), pre73 (k, (kind, at_, ()), ()) → Body73 k kind at_) : Contract Try.prog cfg 73 spec73 :=
  contractX_flat (l := []) cfgOk rfl (trivial) lv73 Try.func73 rfl rfl 2 (fun _ => rfl) (by decide) (fun ⟨k, ⟨kind, at_, _⟩, _⟩ => hb k kind at_ ())
noncomputable def know72 : List (FuncId × Fs U) := [(73, spec73)]
def lv72 : Lives U := fun i => match i with
  | 0 => ([(0, []), (1, [])], [((.x 0), [])])
  | 1 => ([(0, []), (1, []), (7, []), (8, [])], [((.x 0), [])])
  | 2 => ([(0, []), (1, []), (7, []), (8, []), (9, [])], [((.x 0), [])])
  | 3 => ([(0, []), (1, []), (5, []), (7, []), (8, [])], [((.x 0), [])])
  | 4 => ([(0, []), (1, []), (5, []), (7, []), (8, []), (16, [])], [((.x 0), [])])
  | 5 => ([(4, [])], [((.x 0), [])])
  | 6 => ([(0, []), (1, []), (7, []), (8, [])], [((.x 0), [])])
  | 7 => ([(4, [])], [((.x 0), [])])
  | _ => ([], [])
noncomputable def head72_0 (l : List Kid) (kind : Int) (at_ : Int) (x8 : Int) : LSt U := (⟨[(0, .c (.slice (U := U) .kid l .unk)), (1, .clo 73 [(.x 0)]), (7, .c (.int .i64 (l.length : Int))), (8, .c (.int .i64 x8))], [((.x 0), [.int .i64 kind, .int .i64 at_])], []⟩ : LSt U)
noncomputable abbrev A72 (p : List Nat) := awp cfg (know know72) (drawOk cfg (know know72)) Try.f72.ntmps lv72 (cd Try.f72 p)
noncomputable abbrev S72 (p : List Nat) := seqK cfg (know know72) (drawOk cfg (know know72)) Try.f72.ntmps lv72 (cd Try.f72 p)
theorem vc72 (l : List Kid) (kind : Int) (at_ : Int) (Q : AExit → LSt U → Prop) (h : ((LoopWp (A72 [1, 0, 1, 0, 0]) (head72_0 l kind at_ 0) (AExit.inBlock 0 (S72 [1, 1] Q))))) :
    A72 [] (⟨[(0, .c (.slice (U := U) .kid l .unk)), (1, .clo 73 [(.x 0)])], [((.x 0), [.int .i64 kind, .int .i64 at_])], []⟩ : LSt U) Q :=
  Eq.mpr (by kernel_rfl) h
theorem vc72_l0 (l : List Kid) (kind : Int) (at_ : Int) (x8 : Int) (N0 : LSt U → Prop) (Q : AExit → LSt U → Prop) (h : ∀ y_1, y_1 = (List.getD l (Int.toNat x8) (KidOf.mk 0 Edit.nil)) → ∀ y_2, y_2 = (y_1) → (((decide ((x8 : Int) < (l.length : Int))) = true → (((0 : Int) ≤ x8 ∧ x8 < (l.length : Int)) ∧ (pre73 (y_2, (kind, at_, ()), ())) ∧ (((decide (KidOf.at_ y_2 = at_)) = true → (Q .ret (⟨[(4, .c (.int .i64 x8))], [((.x 0), [.int .i64 kind, .int .i64 at_])], []⟩ : LSt U))) ∧ ((decide (KidOf.at_ y_2 = at_)) = false → (InR ((x8 : Int) + 1)) ∧ (N0 (head72_0 l kind at_ ((x8 : Int) + 1))))))) ∧ ((decide ((x8 : Int) < (l.length : Int))) = false → (Q .ret (⟨[(4, .c (.int .i64 (-1)))], [((.x 0), [.int .i64 kind, .int .i64 at_])], []⟩ : LSt U))))) :
    A72 [1, 0, 1, 0, 0] (head72_0 l kind at_ x8) (AExit.then N0 (AExit.inBlock 0 (S72 [1, 1] Q))) :=
  Eq.mpr (by kernel_rfl) (h _ rfl _ (reKid_eq _))
def Body72 (l : List Kid) (kind : Int) (at_ : Int)  : Prop := awp cfg (know (know72)) (drawOk cfg (know (know72))) Try.f72.ntmps lv72 (cd Try.f72 []) (entry (args72.can (l, (kind, at_, ()), ())) (args72.canX (l, (kind, at_, ()), ()))) (EndsQ cfg Try.f72.ntmps Try.f72.results.toList (res72 (l, (kind, at_, ()), ())) (resX72 (l, (kind, at_, ()), ())))
theorem make72 (c73 : Contract Try.prog cfg 73 spec73) (hb : ∀ (l : List Kid) (kind : Int) (at_ : Int) (_ : Unit), pre72 (l, (kind, at_, ()), ()) → Body72 l kind at_) : Contract Try.prog cfg 72 spec72 :=
  contractX_flat (l := [(73, spec73)]) cfgOk rfl (⟨c73, trivial⟩) lv72 Try.func72 rfl rfl 2 (fun _ => rfl) (by decide) (fun ⟨l, ⟨kind, at_, _⟩, _⟩ => hb l kind at_ ())
end Go.AM.Ytpjenobkibfpcaa

namespace Go.AM.Ytpjenobkibfpcaa
open Go.AM Go.Proofs
theorem c93 : Contract Try.prog cfg 93 spec93 := by
  refine make93 ?_
  intro n _ _
  refine vc93 _ _ ?_
  (simp only [vcT, vcS])
  refine ⟨fun h => ?_, fun h => ?_⟩
  · simp only [res93, keepL, if_pos h]
    (repeat' (first | exact trivial | exact rfl | apply And.intro))
  · simp only [res93, keepL, if_neg h]
    (repeat' (first | exact trivial | exact rfl | apply And.intro))
theorem c73 : Contract Try.prog cfg 73 spec73 := by
  refine make73 ?_
  intro k kd at_ _ _
  refine vc73 _ _ _ _ ?_
  refine ends_eq (r' := .c (.bool (k.at_ == at_))) ?_ (by (repeat' (first | exact trivial | exact rfl | apply And.intro)))
  simp only [res73]
  congr 2
theorem c72 : Contract Try.prog cfg 72 spec72 := by
  refine make72 c73 ?_
  intro l kind at_ _ hp
  simp only [pre72] at hp
  refine vc72 _ _ _ _ ?_
  refine loop_rule (ι := Int) (fun i => head72_0 l kind at_ i) (fun i => 0 ≤ i ∧ i ≤ l.length ∧ idxAt (l.drop i.toNat) at_ i = idxAt l at_ 0) (fun i => ((l.length : Int) - i).toNat) 0 rfl ⟨by omega, by omega, rfl⟩ ?_
  rintro i ⟨h1, h2, h3⟩
  refine vc72_l0 _ _ _ _ _ _ ?_
  rintro y1 hy1 y2 rfl
  (simp only [vcT, vcS])
  refine ⟨fun hi => ⟨⟨h1, hi⟩, trivial, fun he => ?_, fun he => ⟨by unfold InR; omega, i + 1, rfl, ⟨by omega, by omega, ?_⟩, by omega⟩⟩, fun hi => ?_⟩
  · rw [dropI h1 hi ⟨0, Edit.nil⟩, ← hy1, idxAt, if_pos he] at h3
    simp only [res72, resX72, ← h3]
    (repeat' (first | exact trivial | exact rfl | apply And.intro))
  · rw [dropI h1 hi ⟨0, Edit.nil⟩, ← hy1, idxAt, if_neg he] at h3
    exact h3
  · rw [List.drop_of_length_le (by omega), idxAt] at h3
    simp only [res72, resX72, ← h3]
    (repeat' (first | exact trivial | exact rfl | apply And.intro))
theorem c95 : Contract Try.prog cfg 95 spec95 := by
  refine make95 ?_
  intro t at_ _ hp
  simp only [pre95] at hp
  have hl := massKT t
  have hk := massK_len t.kids
  refine vc95 _ _ _ ?_
  rintro y1 hy1
  (simp only [vcT, vcS])
  try simp only [vcU]
  refine ⟨fun h => ?_, fun h => ⟨fun hi => ⟨⟨by omega, hi⟩, ?_⟩, fun hi => ?_⟩⟩
  · have e : kidD t at_ = (Tree.nil, false) := by rw [kidD, if_pos (by omega)]
    simp only [res95, e]
    (repeat' (first | exact trivial | exact rfl | apply And.intro))
  · have e : kidD t at_ = (y1, true) := by rw [kidD, if_neg (by omega), if_pos hi, hy1]
    simp only [res95, e]
    (repeat' (first | exact trivial | exact rfl | apply And.intro))
  · have e : kidD t at_ = (Tree.nil, t.kind == 1) := by rw [kidD, if_neg (by omega), if_neg hi]; rfl
    simp only [res95, e]
    (repeat' (first | exact trivial | exact rfl | apply And.intro))
theorem c74 : Contract Try.prog cfg 74 spec74 := by
  refine make74 ?_
  intro l at_ _ hp
  simp only [pre74] at hp
  obtain ⟨⟨ho, hm⟩, ha⟩ := hp
  have hl := massOs_len l
  refine vc74 _ _ _ ?_
  refine loop_rule (ι := Int × Int × Int) (fun s => head74_0 l at_ s.1 s.2.1 s.2.2) (fun s => (0 ≤ s.2.1 ∧ s.2.1 ≤ l.length) ∧ (0 ≤ s.1 ∧ 0 ≤ s.2.2 ∧ s.2.2 + massOs (l.drop s.2.1.toNat) ≤ 1048576 * s.2.1 + massOs l ∧ s.1 + massOs (l.drop s.2.1.toNat) ≤ 1048576 * s.2.1 + massOs l) ∧ findO (l.drop s.2.1.toNat) at_ s.2.2 s.1 = findO l at_ 0 0) (fun s => ((l.length : Int) - s.2.1).toNat) (0, 0, 0) rfl ⟨⟨by dsimp only; omega, by dsimp only; omega⟩, ⟨by dsimp only; omega, by dsimp only; omega, by simp, by simp⟩, rfl⟩ ?_
  rintro ⟨to, i, from_⟩ ⟨⟨h1, h2⟩, ⟨h3, h4, h5, h6⟩, h7⟩
  dsimp only at h1 h2 h3 h4 h5 h6 h7
  refine vc74_l0 _ _ _ _ _ _ _ ?_
  rintro y hy
  dsimp only at hy
  (simp only [vcT, vcS])
  refine ⟨fun hi => ?_, fun hi => ?_⟩
  · have hmem : y ∈ l := by rw [hy]; exact mem_getD (by omega) _
    have hok := ho y hmem
    have hn := opOk_n hok
    have e := dropI h1 hi Op.nil
    rw [← hy] at e
    have hm0 : massOs (l.drop i.toNat) = massOp y + massOs (l.drop (i + 1).toNat) := by rw [e]; rfl
    have hyl : y.l.length ≤ massOp y := by have := massK_len y.l; have := massOp_e y; omega
    have hy1 : 1 ≤ massOp y := by have := massE_pos y.e; have := massOp_e y; omega
    rw [e, findO] at h7
    refine ⟨⟨h1, hi⟩, by unfold InR; omega, fun h3k => ?_, fun h3k => ?_⟩
    · have ol : opLen y = 1 := by unfold opLen; rw [if_pos h3k]
      rw [if_neg (by omega), ol] at h7
      refine ⟨fun h => by omega, fun h2k => ⟨by unfold InR; omega, fun hc => ?_, fun hc => ?_⟩⟩
      · rw [if_pos hc] at h7
        refine ⟨by unfold InR; omega, by unfold InR; omega, ?_⟩
        simp only [res74, ← h7]
        (repeat' (first | exact trivial | exact rfl | apply And.intro))
      · rw [if_neg hc, if_neg (by omega)] at h7
        exact ⟨by unfold InR; omega, fun hk => ⟨by unfold InR; omega, by unfold InR; omega, (to + 1, i + 1, from_ + 1), rfl, ⟨⟨by dsimp only; omega, by dsimp only; omega⟩, ⟨by dsimp only; omega, by dsimp only; omega, by dsimp only; omega, by dsimp only; omega⟩, h7⟩, by dsimp only; omega⟩, fun hk => by omega⟩
    · have ol : opLen y = y.n + y.l.length := by unfold opLen; rw [if_neg h3k]
      rw [ol] at h7
      refine ⟨fun h => ?_, fun h2k => ⟨by unfold InR; omega, fun hc => ?_, fun hc => ?_⟩⟩
      · rw [if_pos h] at h7
        exact ⟨by unfold InR; omega, by unfold InR; omega, (to + (y.n + y.l.length), i + 1, from_), rfl, ⟨⟨by dsimp only; omega, by dsimp only; omega⟩, ⟨by dsimp only; omega, by dsimp only; omega, by dsimp only; omega, by dsimp only; omega⟩, h7⟩, by dsimp only; omega⟩
      · rw [if_neg h2k, if_pos hc] at h7
        refine ⟨by unfold InR; omega, by unfold InR; omega, ?_⟩
        simp only [res74, ← h7]
        (repeat' (first | exact trivial | exact rfl | apply And.intro))
      · rw [if_neg h2k, if_neg hc] at h7
        refine ⟨by unfold InR; omega, fun hk => ?_, fun hk => ?_⟩
        · rw [if_neg hk] at h7
          exact ⟨by unfold InR; omega, by unfold InR; omega, (to + (y.n + y.l.length), i + 1, from_ + (y.n + y.l.length)), rfl, ⟨⟨by dsimp only; omega, by dsimp only; omega⟩, ⟨by dsimp only; omega, by dsimp only; omega, by dsimp only; omega, by dsimp only; omega⟩, h7⟩, by dsimp only; omega⟩
        · rw [if_pos hk] at h7
          exact ⟨by unfold InR; omega, (to, i + 1, from_ + (y.n + y.l.length)), rfl, ⟨⟨by dsimp only; omega, by dsimp only; omega⟩, ⟨by dsimp only; omega, by dsimp only; omega, by dsimp only; omega, by dsimp only; omega⟩, h7⟩, by dsimp only; omega⟩
  · rw [List.drop_of_length_le (by omega), findO] at h7
    simp only [res74, ← h7]
    (repeat' (first | exact trivial | exact rfl | apply And.intro))
end Go.AM.Ytpjenobkibfpcaa

namespace Go.AM.Ytpjenobkibfpcaa
open Go.AM Go.Proofs
theorem nrmOs_rep (list : Int) : ∀ (m : Nat) (s : Wst), nrmOs list (List.replicate (m + 1) ⟨0, 1, [], Edit.nil⟩) s = keepW s (m + 1)
  | 0, s => by simp only [List.replicate, nrmOs, nrmOp]; rfl
  | m + 1, s => by
    rw [List.replicate_succ, nrmOs, nrmOs_rep list m, nrmOp, if_pos rfl, keepW_keepW]
    congr 1
    omega
theorem nrmOs_keep (list : Int) {n : Int} (h : 0 ≤ n) (s : Wst) : nrmOs list (List.replicate n.toNat ⟨0, 1, [], Edit.nil⟩) s = nrmOs list (keepL n) s := by
  unfold keepL
  by_cases h0 : n = 0
  · rw [if_pos h0, h0]; rfl
  · rw [if_neg h0]
    obtain ⟨m, hm⟩ : ∃ m : Nat, n = (m : Int) + 1 := ⟨(n - 1).toNat, by omega⟩
    rw [hm, show ((m : Int) + 1).toNat = m + 1 by omega, nrmOs_rep]
    simp only [nrmOs, nrmOp, if_true]
theorem nrmOs_ops (list : Int) {len i : Int} (h0 : 0 ≤ i) (h1 : i < len) {x y : Edit} (hx : nrmE x = nrmE y) (s : Wst) : nrmOs list (opsA len i x) s = nrmOs list (opsB len i y) s := by
  unfold opsA opsB
  rw [nrmOs_app, nrmOs_app, nrmOs_app, nrmOs_keep list h0]
  simp only [nrmOs, nrmOp, hx]
  rw [nrmOs_keep list (by omega)]
theorem rightOs_app (list d : Int) : ∀ a b : List Op, rightOs list (a ++ b) d = (rightOs list a d && rightOs list b d)
  | [], b => by simp [rightOs]
  | o :: r, b => by rw [List.cons_append, rightOs, rightOs, rightOs_app list d r b, Bool.and_assoc]
theorem lenA_app : ∀ (a b : List Op) (n : Int), lenA (a ++ b) n = lenA b (lenA a n)
  | [], _, _ => rfl
  | o :: r, b, n => by rw [List.cons_append, lenA, lenA, lenA_app r b]
theorem lenB_app : ∀ (a b : List Op) (n : Int), lenB (a ++ b) n = lenB b (lenB a n)
  | [], _, _ => rfl
  | o :: r, b, n => by rw [List.cons_append, lenB, lenB, lenB_app r b]
theorem rightOs_rep (list d : Int) : ∀ m : Nat, rightOs list (List.replicate m ⟨0, 1, [], Edit.nil⟩) d = true
  | 0 => rfl
  | m + 1 => by rw [List.replicate_succ, rightOs, rightOs_rep list d m, rightOp, if_pos rfl]; decide
theorem rightOs_keep (list d : Int) {n : Int} (h0 : 0 ≤ n) (h1 : n ≤ 1048576) : rightOs list (keepL n) d = true := by
  unfold keepL
  split
  · rfl
  · rw [rightOs, rightOs, rightOp, if_pos rfl, Bool.and_true, decide_eq_true (by simp; omega)]; decide
theorem lenA_rep : ∀ (m : Nat) (c : Int), c ≤ 1048576 → lenA (List.replicate m ⟨0, 1, [], Edit.nil⟩) c = min (c + m) 1048576
  | 0, c, h => by simp only [List.replicate, lenA]; omega
  | m + 1, c, h => by
    rw [List.replicate_succ, lenA, if_neg (by decide : ¬(0 : Int) = 2), lenA_rep m _ (by omega)]
    simp only [opLen, if_neg (show ¬(0 : Int) = 3 by decide), List.length_nil]
    omega
theorem lenB_rep : ∀ (m : Nat) (c : Int), c ≤ 1048576 → lenB (List.replicate m ⟨0, 1, [], Edit.nil⟩) c = min (c + m) 1048576
  | 0, c, h => by simp only [List.replicate, lenB]; omega
  | m + 1, c, h => by
    rw [List.replicate_succ, lenB, if_neg (by decide : ¬(0 : Int) = 1), lenB_rep m _ (by omega)]
    simp only [opLen, if_neg (show ¬(0 : Int) = 3 by decide), List.length_nil]
    omega
theorem lenA_keep {n c : Int} (h0 : 0 ≤ n) (h : c ≤ 1048576) : lenA (keepL n) c = min (c + n) 1048576 := by
  unfold keepL
  split
  · simp only [lenA]; omega
  · simp only [lenA, opLen, if_neg (show ¬(0 : Int) = 2 by decide), if_neg (show ¬(0 : Int) = 3 by decide), List.length_nil]
    omega
theorem lenB_keep {n c : Int} (h0 : 0 ≤ n) (h : c ≤ 1048576) : lenB (keepL n) c = min (c + n) 1048576 := by
  unfold keepL
  split
  · simp only [lenB]; omega
  · simp only [lenB, opLen, if_neg (show ¬(0 : Int) = 1 by decide), if_neg (show ¬(0 : Int) = 3 by decide), List.length_nil]
    omega
theorem lenA_ops {len i : Int} (h0 : 0 ≤ i) (h1 : i < len) (x y : Edit) : lenA (opsA len i x) 0 = lenA (opsB len i y) 0 := by
  unfold opsA opsB
  rw [lenA_app, lenA_app, lenA_app, lenA_keep h0 (by omega), lenA_rep _ _ (by omega)]
  simp only [lenA, opLen, if_neg (show ¬(3 : Int) = 2 by decide), if_true]
  rw [lenA_keep (by omega) (by omega), lenA_rep _ _ (by omega)]
  omega
theorem lenB_ops {len i : Int} (h0 : 0 ≤ i) (h1 : i < len) (x y : Edit) : lenB (opsA len i x) 0 = lenB (opsB len i y) 0 := by
  unfold opsA opsB
  rw [lenB_app, lenB_app, lenB_app, lenB_keep h0 (by omega), lenB_rep _ _ (by omega)]
  simp only [lenB, opLen, if_neg (show ¬(3 : Int) = 1 by decide), if_true]
  rw [lenB_keep (by omega) (by omega), lenB_rep _ _ (by omega)]
  omega
def Twin (a b : Edit) : Prop := a.kind = b.kind ∧ a.old = b.old ∧ a.new = b.new ∧ (∀ d, rightE a d = rightE b d) ∧ nrmE a = nrmE b
theorem rightOs_ops (list d : Int) {len i : Int} (h0 : 0 ≤ i) (h1 : i < len) (hl : len ≤ 1048576) {x y : Edit} (t : Twin x y) : rightOs list (opsA len i x) d = rightOs list (opsB len i y) d := by
  obtain ⟨t1, t2, t3, t4, _⟩ := t
  unfold opsA opsB
  rw [rightOs_app, rightOs_app, rightOs_app, rightOs_keep list d h0 (by omega), rightOs_keep list d (by omega) (by omega), rightOs_rep]
  have hr : ∀ z : Edit, rightOp list ⟨3, 0, [], z⟩ d = (decide (z.kind ≠ 0 ∧ 7 < list) && rightE z d && decide (list = 8 ∨ z.kind = 2 ∨ z.kind = 1 ∧ z.old.kind = 1 ∧ z.new.kind = 1)) := fun z => by rw [rightOp_at]; simp
  simp only [rightOs, hr, t1, t2, t3, t4, rightOs_rep, Bool.true_and, Bool.and_true]
theorem twin_wrap (e : Edit) : ∀ (l : List PStep) (t : Tree), mass t ≤ 1048576 → (wrapG opsA e l t).2 = (wrapG opsB e l t).2 ∧ Twin (wrapG opsA e l t).1 (wrapG opsB e l t).1
  | [], t, _ => ⟨rfl, rfl, rfl, rfl, fun _ => rfl, rfl⟩
  | s :: l, t, ht => by
    have hk : mass (t.kids.getD s.at_.toNat Tree.nil) ≤ 1048576 := by
      by_cases hi : s.at_.toNat < t.kids.length
      · have := massK_mem (mem_getD hi Tree.nil); have := massKT t; omega
      · rw [List.getD_eq_getElem?_getD, List.getElem?_eq_none (by omega)]; simp [Tree.nil, mass, massK]
    obtain ⟨h2, h1⟩ := twin_wrap e l _ hk
    rw [wrapG, wrapG]
    split
    · rename_i hf
      rw [h2, h1.1]
      split
      · exact ⟨rfl, rfl, rfl, rfl, fun _ => rfl, rfl⟩
      · split
        · refine ⟨rfl, rfl, rfl, rfl, fun d => ?_, ?_⟩
          · simp only [rightE, rightKs, rightKid, h1.1, h1.2.2.2.1, List.length_cons, List.length_nil]
          · rw [nrmE, nrmE]
            simp only [nrmKs, nrmKid, h1.2.2.2.2]
        · rename_i h3
          obtain ⟨f1, f2, f3⟩ := hf
          have hlt : s.at_ < t.kids.length := by
            rcases f3 with f3 | f3
            · exact absurd f3.1 h3
            · exact f3.2
          have hlen : (t.kids.length : Int) ≤ 1048576 := by have := massKT t; have := massK_len t.kids; omega
          refine ⟨rfl, rfl, rfl, rfl, fun d => ?_, ?_⟩
          · simp only [rightE, rightOs_ops t.kind _ f2 hlt hlen h1, lenA_ops f2 hlt _ (wrapG opsB e l (t.kids.getD s.at_.toNat Tree.nil)).1, lenB_ops f2 hlt _ (wrapG opsB e l (t.kids.getD s.at_.toNat Tree.nil)).1]
            have hz : ∀ x : Edit, ((opsA t.kids.length s.at_ x).length ≠ 0) = True := fun x => by simp [opsA]
            simp
          · rw [nrmE, nrmE, nrmOs_ops t.kind f2 hlt h1.2.2.2.2]
    · exact ⟨rfl, rfl, rfl, rfl, fun _ => rfl, rfl⟩
theorem wrapN_eq (e : Edit) (l : List PStep) (t : Tree) (ht : mass t ≤ 1048576) : wrapN opsA e l t = wrapN opsB e l t := by
  obtain ⟨h2, h1⟩ := twin_wrap e l t ht
  unfold wrapN
  rw [h2, h1.2.2.2.1, h1.2.2.2.2]
end Go.AM.Ytpjenobkibfpcaa

namespace Go.AM.Ytpjenobkibfpcaa
open Go.AM Go.Proofs
theorem kidAt_get (t : Tree) {i : Int} (h : 0 ≤ i) : kidAt t i = t.kids.getD i.toNat Tree.nil := by unfold kidAt; rw [if_neg (by omega)]
theorem mass_get (t : Tree) (i : Nat) : mass (t.kids.getD i Tree.nil) ≤ mass t := by
  by_cases hi : i < t.kids.length
  · have := massK_mem (mem_getD hi Tree.nil); have := massKT t; omega
  · rw [List.getD_eq_getElem?_getD, List.getElem?_eq_none (by omega)]
    have := mass_one t
    simp [Tree.nil, mass, massK]; omega
theorem wrapG_no {f : Int → Int → Edit → List Op} {e : Edit} {s : PStep} {l : List PStep} {t : Tree} (h : ¬ fitsS s t) : wrapG f e (s :: l) t = (Edit.nil, false) := by rw [wrapG, if_neg h]
theorem wrapG_none {f : Int → Int → Edit → List Op} {e : Edit} {s : PStep} {l : List PStep} {t : Tree} (h : fitsS s t) (h2 : (wrapG f e l (t.kids.getD s.at_.toNat Tree.nil)).2 = false ∨ (wrapG f e l (t.kids.getD s.at_.toNat Tree.nil)).1.kind = 0) :
    wrapG f e (s :: l) t = (Edit.nil, (wrapG f e l (t.kids.getD s.at_.toNat Tree.nil)).2) := by rw [wrapG, if_pos h, if_pos h2]
theorem wrapG_str {f : Int → Int → Edit → List Op} {e : Edit} {s : PStep} {l : List PStep} {t : Tree} (h : fitsS s t) (h2 : ¬((wrapG f e l (t.kids.getD s.at_.toNat Tree.nil)).2 = false ∨ (wrapG f e l (t.kids.getD s.at_.toNat Tree.nil)).1.kind = 0)) (h3 : t.kind = 1) :
    wrapG f e (s :: l) t = (.mk 2 Tree.nil Tree.nil [] [⟨s.at_, (wrapG f e l (t.kids.getD s.at_.toNat Tree.nil)).1⟩] 0 [], true) := by rw [wrapG, if_pos h, if_neg h2, if_pos h3]
theorem wrapG_lst {f : Int → Int → Edit → List Op} {e : Edit} {s : PStep} {l : List PStep} {t : Tree} (h : fitsS s t) (h2 : ¬((wrapG f e l (t.kids.getD s.at_.toNat Tree.nil)).2 = false ∨ (wrapG f e l (t.kids.getD s.at_.toNat Tree.nil)).1.kind = 0)) (h3 : ¬ t.kind = 1) :
    wrapG f e (s :: l) t = (.mk 3 Tree.nil Tree.nil [] [] t.kind (f t.kids.length s.at_ (wrapG f e l (t.kids.getD s.at_.toNat Tree.nil)).1), true) := by rw [wrapG, if_pos h, if_neg h2, if_neg h3]
theorem keepL_len (n : Int) : (keepL n).length ≤ 1 := by unfold keepL; split <;> simp
theorem c56 : Contract Try.prog cfg 56 spec56 := by
  refine make56 c91 c92 c93 ?_
  intro N t l e _ hp hN
  simp only [pre56, mu56] at hp hN
  have hkl := massKT t
  have hkk := massK_len t.kids
  refine vc56 _ _ _ _ _ ?_
  rintro y1 rfl y2 rfl y3 hy3 y4 hy4 y5 hy5 y6 rfl y7 hy7 y8 hy8
  cases l with
  | nil =>
    (simp only [vcT, vcS])
    refine ⟨fun _ => ?_, fun h => absurd rfl h⟩
    simp only [res56, wrapG]
    (repeat' (first | exact trivial | exact rfl | apply And.intro))
  | cons s l =>
    have hs : y3 = s := hy3
    subst hs
    have e1 : List.drop (Int.toNat 1) (y3 :: l) = l := rfl
    rw [e1] at hy7 hy8
    rw [e1]
    (simp only [vcT, vcS])
    try simp only [vcU]
    simp only [List.length_cons] at hp hN
    refine ⟨fun h => by simp only [List.length_cons] at h; omega, fun _ => ⟨⟨by omega, by simp only [List.length_cons]; omega⟩, fun hb => ?_, fun hb => ⟨fun h1 => ?_, fun h1 => ?_⟩⟩⟩
    · rw [show res56 (y2, y3 :: l, y1, ()) = _ from rfl]
      simp only [res56, wrapG_no (show ¬ fitsS y3 y2 from fun h => by unfold fitsS at h; omega)]
      (repeat' (first | exact trivial | exact rfl | apply And.intro))
    · have hf : fitsS y3 y2 := ⟨hb.1, by omega, .inl h1⟩
      have hk : y4 = y2.kids.getD y3.at_.toNat Tree.nil := by rw [hy4, kidAt_get y2 (by omega)]
      have hm := mass_get y2 y3.at_.toNat
      rw [← hk] at hm
      refine ⟨by simp only [pre91], ⟨by omega, by simp only [List.length_cons]; omega⟩, by simp only [pre56]; omega, by simp only [mu56]; omega, fun h2 => ?_, fun h2 => ?_⟩
      · rw [hk] at h2 ⊢
        simp only [res56, wrapG_none hf h2]
        (repeat' (first | exact trivial | exact rfl | apply And.intro))
      · have h2' : ¬((wrapG opsA y1 l y4).2 = false ∨ (wrapG opsA y1 l y4).1.kind = 0) := by rw [h2.1]; rintro (h | h); cases h; exact h2.2 h
        rw [hk] at h2'
        rw [hy7, hk]
        simp only [res56, wrapG_str hf h2' h1.1]
        (repeat' (first | exact trivial | exact rfl | apply And.intro))
    · refine ⟨by simp only [pre92], fun h2 => ?_, fun h2 => ?_⟩
      · have hf : fitsS y3 y2 := ⟨hb.1, by omega, .inr h2⟩
        have hm := mass_get y2 y3.at_.toNat
        rw [← hy5] at hm
        have h3 : ¬ y2.kind = 1 := by omega
        refine ⟨⟨by omega, h2.2⟩, ⟨by omega, by simp only [List.length_cons]; omega⟩, by simp only [pre56]; omega, by simp only [mu56]; omega, fun h4 => ?_, fun h4 => ?_⟩
        · rw [hy5] at h4 ⊢
          simp only [res56, wrapG_none hf h4]
          (repeat' (first | exact trivial | exact rfl | apply And.intro))
        · have h2' : ¬((wrapG opsA y1 l y6).2 = false ∨ (wrapG opsA y1 l y6).1.kind = 0) := by rw [h4.1]; rintro (h | h); cases h; exact h4.2 h
          have k1 := keepL_len y3.at_
          have k2 := keepL_len (y2.kids.length - y3.at_ - 1)
          refine ⟨by simp only [pre93], by simp only [List.length_cons, List.length_nil]; omega, by unfold InR; omega, by unfold InR; omega, by simp only [pre93], by simp only [List.length_append, List.length_cons, List.length_nil]; omega, ?_⟩
          rw [hy5] at h2'
          rw [hy8, hy5]
          simp only [res56, wrapG_lst hf h2' h3, opsA]
          (repeat' (first | exact trivial | exact rfl | apply And.intro))
      · simp only [res56, wrapG_no (show ¬ fitsS y3 y2 from fun h => by unfold fitsS at h; omega)]
        (repeat' (first | exact trivial | exact rfl | apply And.intro))
theorem kidD_fits {s : PStep} {t : Tree} : ((kidD t s.at_).2 = true ∧ s.kind = 0) ↔ fitsS s t := by
  unfold kidD fitsS
  split
  · simp only [Bool.false_eq_true, false_and, false_iff]; omega
  · split
    · simp only [true_and]; omega
    · simp only [decide_eq_true_eq]; omega
theorem kidD_get (t : Tree) (i : Int) (h : (kidD t i).2 = true) : (kidD t i).1 = t.kids.getD i.toNat Tree.nil := by
  revert h
  unfold kidD
  split
  · intro h; cases h
  · split
    · intro _; rfl
    · intro _; rw [List.getD_eq_getElem?_getD, List.getElem?_eq_none (by omega)]; rfl
theorem kidD_mass (t : Tree) (i : Int) : mass (kidD t i).1 ≤ mass t := by
  unfold kidD
  have h1 := mass_one t
  split
  · simp [Tree.nil, mass, massK]; omega
  · split
    · exact mass_get t _
    · simp [Tree.nil, mass, massK]; omega
def oneO : Op := ⟨0, 1, [], Edit.nil⟩
def restB (len at_ : Int) (x : Edit) (i : Int) : List Op := if i ≤ at_ then opsB (len - i) (at_ - i) x else List.replicate (len - i).toNat oneO
theorem restB_at {len at_ i : Int} (x : Edit) (h : i = at_) (h1 : at_ < len) : restB len at_ x i = ⟨3, 0, [], x⟩ :: restB len at_ x (i + 1) := by
  unfold restB
  rw [if_pos (by omega), if_neg (by omega), opsB, h, show (at_ - at_).toNat = 0 by omega, show (len - at_ - (at_ - at_) - 1).toNat = (len - (at_ + 1)).toNat by omega]
  rfl
theorem restB_ne {len at_ i : Int} (x : Edit) (h : ¬ i = at_) (h1 : i < len) : restB len at_ x i = oneO :: restB len at_ x (i + 1) := by
  unfold restB
  by_cases h2 : i ≤ at_
  · rw [if_pos h2, if_pos (by omega), opsB, opsB, show (at_ - i).toNat = (at_ - (i + 1)).toNat + 1 by omega, List.replicate_succ, show len - i - (at_ - i) - 1 = len - (i + 1) - (at_ - (i + 1)) - 1 by omega]
    rfl
  · rw [if_neg h2, if_neg (by omega), show (len - i).toNat = (len - (i + 1)).toNat + 1 by omega, List.replicate_succ]
theorem restB_end {len at_ i : Int} (x : Edit) (h : len ≤ i) (h1 : at_ < len) : restB len at_ x i = [] := by
  unfold restB; rw [if_neg (by omega), show (len - i).toNat = 0 by omega]; rfl
theorem c58 : Contract Try.prog cfg 58 spec58 := by
  refine make58 c95 ?_
  intro N t l e _ hp hN
  simp only [pre58, mu58] at hp hN
  have hkl := massKT t
  have hkk := massK_len t.kids
  refine vc58 _ _ _ _ _ ?_
  rintro y1 rfl y2 rfl y3 hy3 y4 hy4 y5 hy5
  cases l with
  | nil =>
    (simp only [vcT, vcS])
    refine ⟨fun _ => ?_, fun h => absurd rfl h⟩
    simp only [res58, wrapG]
    (repeat' (first | exact trivial | exact rfl | apply And.intro))
  | cons s l =>
    have hs : y3 = s := hy3
    subst hs
    have e1 : List.drop (Int.toNat 1) (y3 :: l) = l := rfl
    rw [e1] at hy5
    rw [e1]
    (simp only [vcT, vcS])
    try simp only [vcU]
    simp only [List.length_cons] at hp hN
    have hm := kidD_mass y2 y3.at_
    rw [← hy4] at hm
    refine ⟨fun h => by simp only [List.length_cons] at h; omega, fun _ => ⟨⟨by omega, by simp only [List.length_cons]; omega⟩, by simp only [pre95]; omega, fun _ => ⟨by omega, by simp only [List.length_cons]; omega⟩, fun hb => ?_, fun hb => ?_⟩⟩
    · simp only [res58, wrapG_no (show ¬ fitsS y3 y2 from fun h => by
        have := kidD_fits.2 h
        rw [this.1] at hb
        rcases hb with hb | hb
        · cases hb
        · exact hb this.2)]
      (repeat' (first | exact trivial | exact rfl | apply And.intro))
    · have hf := kidD_fits.1 hb
      have hk : y4 = y2.kids.getD y3.at_.toNat Tree.nil := by rw [hy4, kidD_get _ _ hb.1]
      refine ⟨⟨by omega, by simp only [List.length_cons]; omega⟩, by simp only [pre58]; omega, by simp only [mu58]; omega, fun h2 => ?_, fun h2 => ?_⟩
      · rw [hk] at h2 ⊢
        simp only [res58, wrapG_none hf h2]
        (repeat' (first | exact trivial | exact rfl | apply And.intro))
      · have h2' : ¬((wrapG opsB y1 l y4).2 = false ∨ (wrapG opsB y1 l y4).1.kind = 0) := by rw [h2.1]; rintro (h | h); cases h; exact h2.2 h
        rw [hk] at h2' hy5
        refine ⟨fun h3 => ⟨⟨by omega, by simp only [List.length_cons]; omega⟩, ?_⟩, fun h3 => ?_⟩
        · rw [hy5]
          simp only [res58, wrapG_str hf h2' h3]
          (repeat' (first | exact trivial | exact rfl | apply And.intro))
        · have hlt : y3.at_ < y2.kids.length := by
            have := hf.2.2
            rcases this with h | h
            · exact absurd h.1 h3
            · exact h.2
          have h0 : 0 ≤ y3.at_ := hf.2.1
          refine loop_rule (ι := Int × List Op) (fun s => head58_0 y2 (y3 :: l) y1 s.1 s.2) (fun s => (0 ≤ s.1 ∧ s.1 ≤ y2.kids.length) ∧ s.2.length = s.1 ∧ s.2 ++ restB y2.kids.length y3.at_ y5 s.1 = opsB y2.kids.length y3.at_ y5) (fun s => ((y2.kids.length : Int) - s.1).toNat) (0, []) rfl ⟨⟨by dsimp only; omega, by dsimp only; omega⟩, rfl, by simp [restB, h0]⟩ ?_
          rintro ⟨i, out⟩ ⟨⟨i1, i2⟩, i3, i4⟩
          dsimp only at i1 i2 i3 i4
          refine vc58_l0 _ _ _ _ _ _ _ _ ?_
          rintro z1 rfl z2 rfl z3 hz3 z4 hz4 z5 hz5
          have ez3 : z3 = y3 := hz3
          subst ez3
          rw [e1] at hz5
          have ez5 : z5 = y5 := by rw [hz5, hz4, kidD_get _ _ hb.1, hy5]
          subst ez5
          (simp only [vcT, vcS])
          refine ⟨fun hi => ⟨⟨by omega, by simp only [List.length_cons]; omega⟩, fun ha => ?_, fun ha => ?_⟩, fun hi => ?_⟩
          · rw [restB_at _ ha hlt] at i4
            exact ⟨by simp only [List.length_cons, List.length_nil]; omega, by unfold InR; omega, (i + 1, out ++ [⟨3, 0, [], z5⟩]), rfl, ⟨⟨by dsimp only; omega, by dsimp only; omega⟩, by simp; omega, by simpa using i4⟩, by dsimp only; omega⟩
          · rw [restB_ne _ ha hi] at i4
            exact ⟨by simp only [List.length_cons, List.length_nil]; omega, by unfold InR; omega, (i + 1, out ++ [oneO]), rfl, ⟨⟨by dsimp only; omega, by dsimp only; omega⟩, by simp; omega, by simpa using i4⟩, by dsimp only; omega⟩
          · rw [restB_end _ (by omega) hlt, List.append_nil] at i4
            simp only [res58, wrapG_lst hf h2' h3]
            rw [← hy5, ← i4]
            (repeat' (first | exact trivial | exact rfl | apply And.intro))
end Go.AM.Ytpjenobkibfpcaa

namespace Go.AM.Ytpjenobkibfpcaa
open Go.AM Go.Proofs
def args17 : ArgL (Tree × List PStep × Edit × Unit) := (.cons (aEl .tree) (.cons (aSl .step) (.cons (aEl .edit) .nil)))
def pre17 (a : Tree × List PStep × Edit × Unit) : Prop := ((mass a.1 ≤ 1000000000 ∧ rng a.1) ∧ (massE a.2.2.1 ≤ 1000000000 ∧ rngE a.2.2.1)) ∧ (∀ s ∈ a.2.1, isI s.kind ∧ isI s.at_) ∧ (a.2.1).length ≤ 70
noncomputable def res17 (a : Tree × List PStep × Edit × Unit) : V U := .tup [(true, [.int .i64 (Edit.kind ((wrapN opsA a.2.2.1 a.2.1 a.1).1)), .int .i64 (Tree.kind (Edit.old ((wrapN opsA a.2.2.1 a.2.1 a.1).1))), .slice (U := U) .u64 (Tree.words (Edit.old ((wrapN opsA a.2.2.1 a.2.1 a.1).1))) .unk, .slice (U := U) .tree (Tree.kids (Edit.old ((wrapN opsA a.2.2.1 a.2.1 a.1).1))) .unk, .int .i64 (Tree.kind (Edit.new ((wrapN opsA a.2.2.1 a.2.1 a.1).1))), .slice (U := U) .u64 (Tree.words (Edit.new ((wrapN opsA a.2.2.1 a.2.1 a.1).1))) .unk, .slice (U := U) .tree (Tree.kids (Edit.new ((wrapN opsA a.2.2.1 a.2.1 a.1).1))) .unk, .slice (U := U) .wedit (Edit.words ((wrapN opsA a.2.2.1 a.2.1 a.1).1)) .unk, .slice (U := U) .kid (Edit.kids ((wrapN opsA a.2.2.1 a.2.1 a.1).1)) .unk, .int .i64 (Edit.list ((wrapN opsA a.2.2.1 a.2.1 a.1).1)), .slice (U := U) .op (Edit.ops ((wrapN opsA a.2.2.1 a.2.1 a.1).1)) .unk]), (false, [.bool ((wrapN opsA a.2.2.1 a.2.1 a.1).2)])]
noncomputable def spec17 : Fs U := fs args17 (fun a => [pre17 a]) res17
def args18 : ArgL (Tree × List PStep × Edit × Unit) := (.cons (aEl .tree) (.cons (aSl .step) (.cons (aEl .edit) .nil)))
def pre18 (a : Tree × List PStep × Edit × Unit) : Prop := ((mass a.1 ≤ 1000000000 ∧ rng a.1) ∧ (massE a.2.2.1 ≤ 1000000000 ∧ rngE a.2.2.1)) ∧ (∀ s ∈ a.2.1, isI s.kind ∧ isI s.at_) ∧ (a.2.1).length ≤ 70
noncomputable def res18 (a : Tree × List PStep × Edit × Unit) : V U := .tup [(true, [.int .i64 (Edit.kind ((wrapN opsB a.2.2.1 a.2.1 a.1).1)), .int .i64 (Tree.kind (Edit.old ((wrapN opsB a.2.2.1 a.2.1 a.1).1))), .slice (U := U) .u64 (Tree.words (Edit.old ((wrapN opsB a.2.2.1 a.2.1 a.1).1))) .unk, .slice (U := U) .tree (Tree.kids (Edit.old ((wrapN opsB a.2.2.1 a.2.1 a.1).1))) .unk, .int .i64 (Tree.kind (Edit.new ((wrapN opsB a.2.2.1 a.2.1 a.1).1))), .slice (U := U) .u64 (Tree.words (Edit.new ((wrapN opsB a.2.2.1 a.2.1 a.1).1))) .unk, .slice (U := U) .tree (Tree.kids (Edit.new ((wrapN opsB a.2.2.1 a.2.1 a.1).1))) .unk, .slice (U := U) .wedit (Edit.words ((wrapN opsB a.2.2.1 a.2.1 a.1).1)) .unk, .slice (U := U) .kid (Edit.kids ((wrapN opsB a.2.2.1 a.2.1 a.1).1)) .unk, .int .i64 (Edit.list ((wrapN opsB a.2.2.1 a.2.1 a.1).1)), .slice (U := U) .op (Edit.ops ((wrapN opsB a.2.2.1 a.2.1 a.1).1)) .unk]), (false, [.bool ((wrapN opsB a.2.2.1 a.2.1 a.1).2)])]
noncomputable def spec18 : Fs U := fs args18 (fun a => [pre18 a]) res18
def args27 : ArgL (Edit × List PStep × Unit) := (.cons (aEl .edit) (.cons (aSl .step) .nil))
def pre27 (a : Edit × List PStep × Unit) : Prop := (massE a.1 ≤ 1000000000 ∧ rngE a.1 ∧ ∃ d, rightE a.1 d = true) ∧ (a.2.1).length ≤ 70
noncomputable def res27 (a : Edit × List PStep × Unit) : V U := .tup [(true, [.int .i64 (Edit.kind ((narN a.1 a.2.1).1)), .int .i64 (Tree.kind (Edit.old ((narN a.1 a.2.1).1))), .slice (U := U) .u64 (Tree.words (Edit.old ((narN a.1 a.2.1).1))) .unk, .slice (U := U) .tree (Tree.kids (Edit.old ((narN a.1 a.2.1).1))) .unk, .int .i64 (Tree.kind (Edit.new ((narN a.1 a.2.1).1))), .slice (U := U) .u64 (Tree.words (Edit.new ((narN a.1 a.2.1).1))) .unk, .slice (U := U) .tree (Tree.kids (Edit.new ((narN a.1 a.2.1).1))) .unk, .slice (U := U) .wedit (Edit.words ((narN a.1 a.2.1).1)) .unk, .slice (U := U) .kid (Edit.kids ((narN a.1 a.2.1).1)) .unk, .int .i64 (Edit.list ((narN a.1 a.2.1).1)), .slice (U := U) .op (Edit.ops ((narN a.1 a.2.1).1)) .unk]), (false, [.slice (U := U) .step ((narN a.1 a.2.1).2.1) .unk]), (false, [.bool ((narN a.1 a.2.1).2.2)])]
noncomputable def spec27 : Fs U := fs args27 (fun a => [pre27 a]) res27
noncomputable def know17 : List (FuncId × Fs U) := [(56, spec56), (52, spec52), (57, spec57)]
def lv17 : Lives U := fun i => match i with
  | 0 => ([(1, []), (3, []), (5, []), (6, [])], [((.loc 3), []), ((.loc 5), []), ((.loc 6), [])])
  | 1 => ([(6, []), (8, []), (9, [])], [((.loc 6), []), ((.loc 8), [])])
  | 2 => ([(6, []), (8, []), (23, [])], [((.loc 6), []), ((.loc 8), [])])
  | 3 => ([(6, []), (7, [])], [((.loc 6), [])])
  | 4 => ([(6, []), (7, [])], [((.loc 6), [])])
  | _ => ([], [])
noncomputable abbrev A17 (p : List Nat) := awp cfg (know know17) (drawOk cfg (know know17)) Try.f17.ntmps lv17 (cd Try.f17 p)
theorem vc17 (t : Tree) (l : List PStep) (e : Edit) (Q : AExit → LSt U → Prop) (h : ∀ y_1, y_1 = (e) → ∀ y_2, y_2 = (t) → ∀ y_3, y_3 = (((wrapG opsA y_1 l y_2).1)) → ((pre56 (y_2, l, y_1, ())) ∧ ((Tr ((!(!((wrapG opsA y_1 l y_2).2))) = true)) ∧ ((!(!((wrapG opsA y_1 l y_2).2))) = true → pre52 (y_3, ())) ∧ (Tr ((!(!((wrapG opsA y_1 l y_2).2))) = true)) ∧ (((!((wrapG opsA y_1 l y_2).2)) = false → (!(!((wrapG opsA y_1 l y_2).2))) = true)) ∧ (((bif (!((wrapG opsA y_1 l y_2).2)) then true else (!(rightE y_3 64))) = true → (Q .ret (⟨[(6, .ptr (.loc 6) 0), (7, .c (.bool false))], [((.loc 6), [.int .i64 0, .int .i64 0, .nils, .nils, .int .i64 0, .nils, .nils, .nils, .nils, .int .i64 0, .nils])], []⟩ : LSt U))) ∧ ((bif (!((wrapG opsA y_1 l y_2).2)) then true else (!(rightE y_3 64))) = false → (pre57 (y_3, ())) ∧ (Q .ret (⟨[(6, .ptr (.loc 6) 0), (7, .c (.bool true))], [((.loc 6), [.int .i64 (Edit.kind (nrmE y_3)), .int .i64 (Tree.kind (Edit.old (nrmE y_3))), .slice (U := U) .u64 (Tree.words (Edit.old (nrmE y_3))) .unk, .slice (U := U) .tree (Tree.kids (Edit.old (nrmE y_3))) .unk, .int .i64 (Tree.kind (Edit.new (nrmE y_3))), .slice (U := U) .u64 (Tree.words (Edit.new (nrmE y_3))) .unk, .slice (U := U) .tree (Tree.kids (Edit.new (nrmE y_3))) .unk, .slice (U := U) .wedit (Edit.words (nrmE y_3)) .unk, .slice (U := U) .kid (Edit.kids (nrmE y_3)) .unk, .int .i64 (Edit.list (nrmE y_3)), .slice (U := U) .op (Edit.ops (nrmE y_3)) .unk])], []⟩ : LSt U))))))) :
    A17 [] (⟨[(0, .agg [.int .i64 (Tree.kind t), .slice (U := U) .u64 (Tree.words t) .unk, .slice (U := U) .tree (Tree.kids t) .unk]), (1, .c (.slice (U := U) .step l .unk)), (2, .agg [.int .i64 (Edit.kind e), .int .i64 (Tree.kind (Edit.old e)), .slice (U := U) .u64 (Tree.words (Edit.old e)) .unk, .slice (U := U) .tree (Tree.kids (Edit.old e)) .unk, .int .i64 (Tree.kind (Edit.new e)), .slice (U := U) .u64 (Tree.words (Edit.new e)) .unk, .slice (U := U) .tree (Tree.kids (Edit.new e)) .unk, .slice (U := U) .wedit (Edit.words e) .unk, .slice (U := U) .kid (Edit.kids e) .unk, .int .i64 (Edit.list e), .slice (U := U) .op (Edit.ops e) .unk])], [], []⟩ : LSt U) Q :=
  Eq.mpr (by kernel_rfl) (h _ (reEdit_eq _) _ (reTree_eq _) _ (reEdit_eq _))
def Body17 (t : Tree) (l : List PStep) (e : Edit)  : Prop := awp cfg (know (know17)) (drawOk cfg (know (know17))) Try.f17.ntmps lv17 (cd Try.f17 []) (entry (args17.can (t, l, e, ())) []) (EndsQ cfg Try.f17.ntmps Try.f17.results.toList (res17 (t, l, e, ())) [])
theorem make17 (c56 : Contract Try.prog cfg 56 spec56) (c52 : Contract Try.prog cfg 52 spec52) (c57 : Contract Try.prog cfg 57 spec57) (hb : ∀ (t : Tree) (l : List PStep) (e : Edit) (_ : Unit), pre17 (t, l, e, ()) → Body17 t l e) : Contract Try.prog cfg 17 spec17 :=
  contract_flat (l := [(56, spec56), (52, spec52), (57, spec57)]) cfgOk rfl (⟨c56, c52, c57, trivial⟩) lv17 Try.func17 rfl rfl 3 (fun _ => rfl) (by decide) (fun ⟨t, l, e, _⟩ => hb t l e ())
noncomputable def know18 : List (FuncId × Fs U) := [(58, spec58), (23, spec23), (32, spec32)]
def lv18 : Lives U := fun i => match i with
  | 0 => ([(1, []), (3, []), (5, []), (6, [])], [((.loc 3), []), ((.loc 5), []), ((.loc 6), [])])
  | 1 => ([(6, []), (8, []), (9, [])], [((.loc 6), []), ((.loc 8), [])])
  | 2 => ([(6, []), (8, []), (23, [])], [((.loc 6), []), ((.loc 8), [])])
  | 3 => ([(6, []), (7, [])], [((.loc 6), [])])
  | 4 => ([(6, []), (7, [])], [((.loc 6), [])])
  | _ => ([], [])
noncomputable abbrev A18 (p : List Nat) := awp cfg (know know18) (drawOk cfg (know know18)) Try.f18.ntmps lv18 (cd Try.f18 p)
theorem vc18 (t : Tree) (l : List PStep) (e : Edit) (Q : AExit → LSt U → Prop) (h : ∀ y_1, y_1 = (e) → ∀ y_2, y_2 = (t) → ∀ y_3, y_3 = (((wrapG opsB y_1 l y_2).1)) → ((pre58 (y_2, l, y_1, ())) ∧ ((Tr ((!(!((wrapG opsB y_1 l y_2).2))) = true)) ∧ ((!(!((wrapG opsB y_1 l y_2).2))) = true → pre23 (y_3, 64, ())) ∧ (Tr ((!(!((wrapG opsB y_1 l y_2).2))) = true)) ∧ (((!((wrapG opsB y_1 l y_2).2)) = false → (!(!((wrapG opsB y_1 l y_2).2))) = true)) ∧ (((bif (!((wrapG opsB y_1 l y_2).2)) then true else (!(rightE y_3 64))) = true → (Q .ret (⟨[(6, .ptr (.loc 6) 0), (7, .c (.bool false))], [((.loc 6), [.int .i64 0, .int .i64 0, .nils, .nils, .int .i64 0, .nils, .nils, .nils, .nils, .int .i64 0, .nils])], []⟩ : LSt U))) ∧ ((bif (!((wrapG opsB y_1 l y_2).2)) then true else (!(rightE y_3 64))) = false → (pre32 (y_3, ())) ∧ (Q .ret (⟨[(6, .ptr (.loc 6) 0), (7, .c (.bool true))], [((.loc 6), [.int .i64 (Edit.kind (nrmE y_3)), .int .i64 (Tree.kind (Edit.old (nrmE y_3))), .slice (U := U) .u64 (Tree.words (Edit.old (nrmE y_3))) .unk, .slice (U := U) .tree (Tree.kids (Edit.old (nrmE y_3))) .unk, .int .i64 (Tree.kind (Edit.new (nrmE y_3))), .slice (U := U) .u64 (Tree.words (Edit.new (nrmE y_3))) .unk, .slice (U := U) .tree (Tree.kids (Edit.new (nrmE y_3))) .unk, .slice (U := U) .wedit (Edit.words (nrmE y_3)) .unk, .slice (U := U) .kid (Edit.kids (nrmE y_3)) .unk, .int .i64 (Edit.list (nrmE y_3)), .slice (U := U) .op (Edit.ops (nrmE y_3)) .unk])], []⟩ : LSt U))))))) :
    A18 [] (⟨[(0, .agg [.int .i64 (Tree.kind t), .slice (U := U) .u64 (Tree.words t) .unk, .slice (U := U) .tree (Tree.kids t) .unk]), (1, .c (.slice (U := U) .step l .unk)), (2, .agg [.int .i64 (Edit.kind e), .int .i64 (Tree.kind (Edit.old e)), .slice (U := U) .u64 (Tree.words (Edit.old e)) .unk, .slice (U := U) .tree (Tree.kids (Edit.old e)) .unk, .int .i64 (Tree.kind (Edit.new e)), .slice (U := U) .u64 (Tree.words (Edit.new e)) .unk, .slice (U := U) .tree (Tree.kids (Edit.new e)) .unk, .slice (U := U) .wedit (Edit.words e) .unk, .slice (U := U) .kid (Edit.kids e) .unk, .int .i64 (Edit.list e), .slice (U := U) .op (Edit.ops e) .unk])], [], []⟩ : LSt U) Q :=
  Eq.mpr (by kernel_rfl) (h _ (reEdit_eq _) _ (reTree_eq _) _ (reEdit_eq _))
def Body18 (t : Tree) (l : List PStep) (e : Edit)  : Prop := awp cfg (know (know18)) (drawOk cfg (know (know18))) Try.f18.ntmps lv18 (cd Try.f18 []) (entry (args18.can (t, l, e, ())) []) (EndsQ cfg Try.f18.ntmps Try.f18.results.toList (res18 (t, l, e, ())) [])
theorem make18 (c58 : Contract Try.prog cfg 58 spec58) (c23 : Contract Try.prog cfg 23 spec23) (c32 : Contract Try.prog cfg 32 spec32) (hb : ∀ (t : Tree) (l : List PStep) (e : Edit) (_ : Unit), pre18 (t, l, e, ()) → Body18 t l e) : Contract Try.prog cfg 18 spec18 :=
  contract_flat (l := [(58, spec58), (23, spec23), (32, spec32)]) cfgOk rfl (⟨c58, c23, c32, trivial⟩) lv18 Try.func18 rfl rfl 3 (fun _ => rfl) (by decide) (fun ⟨t, l, e, _⟩ => hb t l e ())
noncomputable def know27 : List (FuncId × Fs U) := [(72, spec72), (74, spec74), (57, spec57)]
def lv27 : Lives U := fun i => match i with
  | 0 => ([(1, []), (2, []), (4, [])], [((.loc 2), []), ((.loc 4), [])])
  | 1 => ([(1, []), (2, []), (4, []), (7, [])], [((.loc 2), []), ((.loc 4), [])])
  | 2 => ([(2, []), (4, []), (7, [.own .step]), (14, []), (15, []), (16, [])], [((.loc 2), [.any, .any, .unk .u64, .unk .tree, .any, .unk .u64, .unk .tree, .unk .wedit, .unk .kid, .any, .unk .op]), ((.loc 4), [])])
  | 3 => ([(2, []), (4, []), (7, []), (14, []), (15, []), (16, []), (17, [])], [((.loc 2), []), ((.loc 4), [])])
  | 4 => ([(2, []), (4, []), (7, []), (9, []), (14, []), (15, []), (16, [])], [((.loc 2), []), ((.loc 4), []), ((.loc 9), [])])
  | 5 => ([(2, []), (4, []), (7, []), (9, []), (14, []), (15, []), (16, []), (20, [])], [((.loc 2), []), ((.loc 4), []), ((.loc 9), [])])
  | 6 => ([(4, []), (5, []), (6, [])], [((.loc 4), [])])
  | 7 => ([(2, []), (4, []), (7, []), (9, []), (14, []), (15, []), (16, []), (35, [])], [((.loc 2), []), ((.loc 4), []), ((.loc 9), [])])
  | 8 => ([(2, []), (4, []), (7, []), (9, []), (10, []), (14, []), (15, []), (16, [])], [((.loc 2), []), ((.loc 4), []), ((.loc 9), [])])
  | 9 => ([(2, []), (4, []), (7, []), (9, []), (10, []), (14, []), (15, []), (16, []), (44, [])], [((.loc 2), []), ((.loc 4), []), ((.loc 9), [])])
  | 10 => ([(2, []), (4, []), (7, []), (9, []), (14, []), (15, []), (16, [])], [((.loc 2), []), ((.loc 4), []), ((.loc 9), [])])
  | 11 => ([(2, []), (4, []), (7, []), (9, []), (14, []), (15, []), (16, [])], [((.loc 2), []), ((.loc 4), []), ((.loc 9), [])])
  | 12 => ([(2, []), (4, []), (7, []), (9, []), (14, []), (15, []), (16, []), (52, [])], [((.loc 2), []), ((.loc 4), []), ((.loc 9), [])])
  | 13 => ([(2, []), (4, []), (7, []), (9, []), (11, []), (12, []), (13, []), (14, []), (15, []), (16, [])], [((.loc 2), []), ((.loc 4), []), ((.loc 9), []), ((.loc 11), [])])
  | 14 => ([(2, []), (4, []), (7, []), (9, []), (11, []), (12, []), (14, []), (15, []), (16, []), (66, [])], [((.loc 2), []), ((.loc 4), []), ((.loc 9), []), ((.loc 11), [])])
  | 15 => ([(4, []), (5, []), (6, [])], [((.loc 4), [])])
  | 16 => ([(2, []), (4, []), (7, []), (9, []), (14, []), (15, []), (16, [])], [((.loc 2), []), ((.loc 4), []), ((.loc 9), [])])
  | 17 => ([(2, []), (4, []), (7, []), (14, []), (15, []), (16, [])], [((.loc 2), []), ((.loc 4), [])])
  | 18 => ([(2, []), (4, []), (7, [.own .step]), (14, []), (15, []), (16, [])], [((.loc 2), [.any, .any, .unk .u64, .unk .tree, .any, .unk .u64, .unk .tree, .unk .wedit, .unk .kid, .any, .unk .op]), ((.loc 4), [])])
  | 19 => ([(4, []), (5, []), (6, [])], [((.loc 4), [])])
  | _ => ([], [])
noncomputable def head27_0 (e : Edit) (l : List PStep) (x16 : Int) (ml2_0 : Int) (ml2_1 : Int) (ml2_4 : Int) (ml2_9 : Int) (ml2_2 : List Int) (ml2_3 : List Tree) (ml2_5 : List Int) (ml2_6 : List Tree) (ml2_7 : List WEdit) (ml2_8 : List Kid) (ml2_10 : List Op) (x7 : List PStep) : LSt U := (⟨[(2, .ptr (.loc 2) 0), (4, .ptr (.loc 4) 0), (7, .c (.slice (U := U) .step x7 (.own (.e 7 0)))), (14, .c (.slice (U := U) .step l .unk)), (15, .c (.int .i64 (l.length : Int))), (16, .c (.int .i64 x16))], [((.loc 2), [.int .i64 ml2_0, .int .i64 ml2_1, .slice (U := U) .u64 ml2_2 .unk, .slice (U := U) .tree ml2_3 .unk, .int .i64 ml2_4, .slice (U := U) .u64 ml2_5 .unk, .slice (U := U) .tree ml2_6 .unk, .slice (U := U) .wedit ml2_7 .unk, .slice (U := U) .kid ml2_8 .unk, .int .i64 ml2_9, .slice (U := U) .op ml2_10 .unk]), ((.loc 4), [.int .i64 0, .int .i64 0, .nils, .nils, .int .i64 0, .nils, .nils, .nils, .nils, .int .i64 0, .nils])], []⟩ : LSt U)
noncomputable abbrev A27 (p : List Nat) := awp cfg (know know27) (drawOk cfg (know know27)) Try.f27.ntmps lv27 (cd Try.f27 p)
noncomputable abbrev S27 (p : List Nat) := seqK cfg (know know27) (drawOk cfg (know know27)) Try.f27.ntmps lv27 (cd Try.f27 p)
theorem vc27 (e : Edit) (l : List PStep) (Q : AExit → LSt U → Prop) (h : (((LoopWp (A27 [1, 1, 0, 1, 0, 0]) (head27_0 e l 0 (Edit.kind e) (Tree.kind (Edit.old e)) (Tree.kind (Edit.new e)) (Edit.list e) (Tree.words (Edit.old e)) (Tree.kids (Edit.old e)) (Tree.words (Edit.new e)) (Tree.kids (Edit.new e)) (Edit.words e) (Edit.kids e) (Edit.ops e) ([])) (AExit.inBlock 0 (S27 [1, 1, 1] Q)))))) :
    A27 [] (⟨[(0, .agg [.int .i64 (Edit.kind e), .int .i64 (Tree.kind (Edit.old e)), .slice (U := U) .u64 (Tree.words (Edit.old e)) .unk, .slice (U := U) .tree (Tree.kids (Edit.old e)) .unk, .int .i64 (Tree.kind (Edit.new e)), .slice (U := U) .u64 (Tree.words (Edit.new e)) .unk, .slice (U := U) .tree (Tree.kids (Edit.new e)) .unk, .slice (U := U) .wedit (Edit.words e) .unk, .slice (U := U) .kid (Edit.kids e) .unk, .int .i64 (Edit.list e), .slice (U := U) .op (Edit.ops e) .unk]), (1, .c (.slice (U := U) .step l .unk))], [], []⟩ : LSt U) Q :=
  Eq.mpr (by kernel_rfl) h
theorem vc27_l0 (e : Edit) (l : List PStep) (x16 : Int) (ml2_0 : Int) (ml2_1 : Int) (ml2_4 : Int) (ml2_9 : Int) (ml2_2 : List Int) (ml2_3 : List Tree) (ml2_5 : List Int) (ml2_6 : List Tree) (ml2_7 : List WEdit) (ml2_8 : List Kid) (ml2_10 : List Op) (x7 : List PStep) (N0 : LSt U → Prop) (Q : AExit → LSt U → Prop) (h : ∀ y_1, y_1 = (List.getD l (Int.toNat x16) (PStep.mk 0 0)) → ∀ y_2, y_2 = (Edit.mk ml2_0 (Tree.mk ml2_1 ml2_2 ml2_3) (Tree.mk ml2_4 ml2_5 ml2_6) ml2_7 ml2_8 ml2_9 ml2_10) → ∀ y_3, y_3 = (y_1) → ∀ y_4, y_4 = (List.getD ml2_8 (Int.toNat (idxAt ml2_8 (PStep.at_ y_1) 0)) (KidOf.mk 0 Edit.nil)) → (((decide ((x16 : Int) < (l.length : Int))) = true → ((0 : Int) ≤ x16 ∧ x16 < (l.length : Int)) ∧ ((Tr ((!(((PStep.kind y_1) : Int) != 0)) = true)) ∧ (Tr ((!(((PStep.kind y_1) : Int) != 0)) = true)) ∧ (((((PStep.kind y_1) : Int) != 0) = false → (!(((PStep.kind y_1) : Int) != 0)) = true)) ∧ (Tr ((!(bif (((PStep.kind y_1) : Int) != 0) then true else (decide (((PStep.at_ y_1) : Int) < 0)))) = true)) ∧ (Tr ((!(bif (((PStep.kind y_1) : Int) != 0) then true else (decide (((PStep.at_ y_1) : Int) < 0)))) = true)) ∧ (((bif (((PStep.kind y_1) : Int) != 0) then true else (decide (((PStep.at_ y_1) : Int) < 0))) = false → (!(bif (((PStep.kind y_1) : Int) != 0) then true else (decide (((PStep.at_ y_1) : Int) < 0)))) = true)) ∧ (((bif (bif (((PStep.kind y_1) : Int) != 0) then true else (decide (((PStep.at_ y_1) : Int) < 0))) then true else ((ml2_0 : Int) == 1)) = true → (Q .ret (⟨[(4, .ptr (.loc 4) 0), (5, .c (.nils)), (6, .c (.bool false))], [((.loc 4), [.int .i64 0, .int .i64 0, .nils, .nils, .int .i64 0, .nils, .nils, .nils, .nils, .int .i64 0, .nils])], []⟩ : LSt U))) ∧ ((bif (bif (((PStep.kind y_1) : Int) != 0) then true else (decide (((PStep.at_ y_1) : Int) < 0))) then true else ((ml2_0 : Int) == 1)) = false → ((((ml2_0 : Int) == 2) = true → (pre72 (ml2_8, ((PStep.kind y_1), (PStep.at_ y_1), ()), ())) ∧ ((((decide (((idxAt ml2_8 (PStep.at_ y_1) 0) : Int) < 0)) = true → (((x7.length + ([y_3]).length) * 16 ≤ 140737488355328) ∧ ((InR ((x16 : Int) + 1)) ∧ (N0 (head27_0 e l ((x16 : Int) + 1) 0 0 0 0 ([]) ([]) ([]) ([]) ([]) ([]) ([]) (x7 ++ ([y_3]))))))) ∧ ((decide (((idxAt ml2_8 (PStep.at_ y_1) 0) : Int) < 0)) = false → ((0 : Int) ≤ (idxAt ml2_8 (PStep.at_ y_1) 0) ∧ (idxAt ml2_8 (PStep.at_ y_1) 0) < (ml2_8.length : Int)) ∧ (((x7.length + ([y_3]).length) * 16 ≤ 140737488355328) ∧ ((InR ((x16 : Int) + 1)) ∧ (N0 (head27_0 e l ((x16 : Int) + 1) (Edit.kind (KidOf.e y_4)) (Tree.kind (Edit.old (KidOf.e y_4))) (Tree.kind (Edit.new (KidOf.e y_4))) (Edit.list (KidOf.e y_4)) (Tree.words (Edit.old (KidOf.e y_4))) (Tree.kids (Edit.old (KidOf.e y_4))) (Tree.words (Edit.new (KidOf.e y_4))) (Tree.kids (Edit.new (KidOf.e y_4))) (Edit.words (KidOf.e y_4)) (Edit.kids (KidOf.e y_4)) (Edit.ops (KidOf.e y_4)) (x7 ++ ([y_3])))))))))) ∧ (((ml2_0 : Int) == 2) = false → ((((ml2_0 : Int) == 3) = true → (pre74 (ml2_10, (PStep.at_ y_1), ())) ∧ ((((!((findO ml2_10 (PStep.at_ y_1) 0 0).2.2)) = true → (Q .ret (⟨[(4, .ptr (.loc 4) 0), (5, .c (.nils)), (6, .c (.bool false))], [((.loc 4), [.int .i64 0, .int .i64 0, .nils, .nils, .int .i64 0, .nils, .nils, .nils, .nils, .int .i64 0, .nils])], []⟩ : LSt U))) ∧ ((!((findO ml2_10 (PStep.at_ y_1) 0 0).2.2)) = false → (((x7.length + ([(PStep.mk (PStep.kind y_1) ((findO ml2_10 (PStep.at_ y_1) 0 0).2.1))]).length) * 16 ≤ 140737488355328) ∧ ((InR ((x16 : Int) + 1)) ∧ (N0 (head27_0 e l ((x16 : Int) + 1) (Edit.kind (OpOf.e ((findO ml2_10 (PStep.at_ y_1) 0 0).1))) (Tree.kind (Edit.old (OpOf.e ((findO ml2_10 (PStep.at_ y_1) 0 0).1)))) (Tree.kind (Edit.new (OpOf.e ((findO ml2_10 (PStep.at_ y_1) 0 0).1)))) (Edit.list (OpOf.e ((findO ml2_10 (PStep.at_ y_1) 0 0).1))) (Tree.words (Edit.old (OpOf.e ((findO ml2_10 (PStep.at_ y_1) 0 0).1)))) (Tree.kids (Edit.old (OpOf.e ((findO ml2_10 (PStep.at_ y_1) 0 0).1)))) (Tree.words (Edit.new (OpOf.e ((findO ml2_10 (PStep.at_ y_1) 0 0).1)))) (Tree.kids (Edit.new (OpOf.e ((findO ml2_10 (PStep.at_ y_1) 0 0).1)))) (Edit.words (OpOf.e ((findO ml2_10 (PStep.at_ y_1) 0 0).1))) (Edit.kids (OpOf.e ((findO ml2_10 (PStep.at_ y_1) 0 0).1))) (Edit.ops (OpOf.e ((findO ml2_10 (PStep.at_ y_1) 0 0).1))) (x7 ++ ([(PStep.mk (PStep.kind y_1) ((findO ml2_10 (PStep.at_ y_1) 0 0).2.1))])))))))))) ∧ (((ml2_0 : Int) == 3) = false → ((x7.length + ([y_3]).length) * 16 ≤ 140737488355328) ∧ ((InR ((x16 : Int) + 1)) ∧ (N0 (head27_0 e l ((x16 : Int) + 1) ml2_0 ml2_1 ml2_4 ml2_9 ml2_2 ml2_3 ml2_5 ml2_6 ml2_7 ml2_8 ml2_10 (x7 ++ ([y_3]))))))))))))) ∧ ((decide ((x16 : Int) < (l.length : Int))) = false → (pre57 (y_2, ())) ∧ (Q .ret (⟨[(4, .ptr (.loc 4) 0), (5, .c (.slice (U := U) .step x7 (.own (.e 5 0)))), (6, .c (.bool true))], [((.loc 4), [.int .i64 (Edit.kind (nrmE y_2)), .int .i64 (Tree.kind (Edit.old (nrmE y_2))), .slice (U := U) .u64 (Tree.words (Edit.old (nrmE y_2))) .unk, .slice (U := U) .tree (Tree.kids (Edit.old (nrmE y_2))) .unk, .int .i64 (Tree.kind (Edit.new (nrmE y_2))), .slice (U := U) .u64 (Tree.words (Edit.new (nrmE y_2))) .unk, .slice (U := U) .tree (Tree.kids (Edit.new (nrmE y_2))) .unk, .slice (U := U) .wedit (Edit.words (nrmE y_2)) .unk, .slice (U := U) .kid (Edit.kids (nrmE y_2)) .unk, .int .i64 (Edit.list (nrmE y_2)), .slice (U := U) .op (Edit.ops (nrmE y_2)) .unk])], []⟩ : LSt U))))) :
    A27 [1, 1, 0, 1, 0, 0] (head27_0 e l x16 ml2_0 ml2_1 ml2_4 ml2_9 ml2_2 ml2_3 ml2_5 ml2_6 ml2_7 ml2_8 ml2_10 x7) (AExit.then N0 (AExit.inBlock 0 (S27 [1, 1, 1] Q))) :=
  Eq.mpr (by kernel_rfl) (h _ rfl _ rfl _ (reStep_eq _) _ rfl)
def Body27 (e : Edit) (l : List PStep)  : Prop := awp cfg (know (know27)) (drawOk cfg (know (know27))) Try.f27.ntmps lv27 (cd Try.f27 []) (entry (args27.can (e, l, ())) []) (EndsQ cfg Try.f27.ntmps Try.f27.results.toList (res27 (e, l, ())) [])
theorem make27 (c72 : Contract Try.prog cfg 72 spec72) (c74 : Contract Try.prog cfg 74 spec74) (c57 : Contract Try.prog cfg 57 spec57) (hb : ∀ (e : Edit) (l : List PStep) (_ : Unit), pre27 (e, l, ()) → Body27 e l) : Contract Try.prog cfg 27 spec27 :=
  contract_flat (l := [(72, spec72), (74, spec74), (57, spec57)]) cfgOk rfl (⟨c72, c74, c57, trivial⟩) lv27 Try.func27 rfl rfl 2 (fun _ => rfl) (by decide) (fun ⟨e, l, _⟩ => hb e l ())
end Go.AM.Ytpjenobkibfpcaa

namespace Go.AM.Ytpjenobkibfpcaa
open Go.AM Go.Proofs
theorem mass_rep (x : Op) : ∀ n : Nat, massOs (List.replicate n x) = n * massOp x
  | 0 => by simp [massOs]
  | n + 1 => by rw [List.replicate_succ, massOs, mass_rep x n, Nat.add_mul, Nat.one_mul]; omega
theorem mass_keepL (n : Int) : massOs (keepL n) ≤ 3 := by
  unfold keepL
  split
  · simp [massOs]
  · simp only [massOs, massOp, massK, massE_nil]; omega
theorem mass_opsA (len i : Int) (x : Edit) : (opsA len i x).length + massOs (opsA len i x) ≤ massE x + 9 := by
  have h1 := keepL_len i
  have h2 := keepL_len (len - i - 1)
  have h3 := mass_keepL i
  have h4 := mass_keepL (len - i - 1)
  simp only [opsA, List.length_append, List.length_cons, List.length_nil, massOs_app, massOs, massOp, massK]
  omega
theorem mass_opsB {len i : Int} (h0 : 0 ≤ i) (h1 : i < len) (x : Edit) : ((opsB len i x).length + massOs (opsB len i x) : Int) ≤ massE x + 4 * len := by
  have e : massOp ⟨0, 1, [], Edit.nil⟩ = 3 := by simp only [massOp, massK, massE_nil]
  have e3 : massOp ⟨3, 0, [], x⟩ = massE x := by simp only [massOp, massK]; omega
  simp only [opsB, List.length_append, List.length_cons, List.length_replicate, massOs_app, massOs, mass_rep, e, e3]
  omega
theorem mass_wrapG {f : Int → Int → Edit → List Op} (hf : ∀ (len i : Int) (x : Edit), 0 ≤ i → i < len → ((f len i x).length + massOs (f len i x) : Int) ≤ massE x + 4 * len + 9) (e : Edit) : ∀ (l : List PStep) (t : Tree), (massE (wrapG f e l t).1 : Int) ≤ massE e + 4 * mass t + 12 * l.length
  | [], t => by rw [wrapG]; simp only [List.length_nil]; omega
  | s :: l, t => by
    have ih := mass_wrapG hf e l (t.kids.getD s.at_.toNat Tree.nil)
    have he := massE_pos e
    have ht := mass_one t
    by_cases h : fitsS s t
    · by_cases h2 : (wrapG f e l (t.kids.getD s.at_.toNat Tree.nil)).2 = false ∨ (wrapG f e l (t.kids.getD s.at_.toNat Tree.nil)).1.kind = 0
      · rw [wrapG_none h h2]; simp only [massE_nil, List.length_cons]; omega
      · by_cases h3 : t.kind = 1
        · have := mass_get t s.at_.toNat
          rw [wrapG_str h h2 h3]
          simp only [massE, Tree.nil, mass, massK, massKs, massKid, massOs, List.length_nil, List.length_cons] at ih this ⊢
          omega
        · rw [wrapG_lst h h2 h3]
          have hlt : s.at_ < t.kids.length := by
            rcases h.2.2 with h4 | h4
            · exact absurd h4.1 h3
            · exact h4.2
          have h0 : 0 ≤ s.at_ := h.2.1
          have hm := hf t.kids.length s.at_ (wrapG f e l (t.kids.getD s.at_.toNat Tree.nil)).1 h0 hlt
          have hk : mass (t.kids.getD s.at_.toNat Tree.nil) + t.kids.length ≤ mass t := by
            have h5 := mem_getD (l := t.kids) (i := s.at_.toNat) (by omega) Tree.nil
            have h6 := massKT t
            have h7 := massK_sum h5
            omega
          simp only [massE, Tree.nil, mass, massK, massKs, List.length_nil, List.length_cons] at ih hm hk ⊢
          omega
    · rw [wrapG_no h]; simp only [massE_nil, List.length_cons]; omega
where
  massK_sum : ∀ {ks : List Tree} {k : Tree}, k ∈ ks → mass k + ks.length ≤ massK ks + 1
    | a :: r, k, h => by
      have h1 := massK_len r
      have h2 := mass_one a
      rcases List.mem_cons.1 h with rfl | h
      · simp only [massK, List.length_cons]; omega
      · have := massK_sum h; simp only [massK, List.length_cons]; omega
theorem rngE_nil : rngE Edit.nil := by simp [Edit.nil, rngE, Tree.nil, rng, rngK, rngKs, rngOs, isI]
theorem rngOs_all : ∀ {l : List Op}, (∀ o ∈ l, rngOp o) → rngOs l
  | [], _ => trivial
  | o :: r, h => ⟨h o List.mem_cons_self, rngOs_all fun x hx => h x (List.mem_cons_of_mem _ hx)⟩
theorem rng_keepL {n : Int} (h : isI n) : ∀ o ∈ keepL n, rngOp o := by
  unfold keepL
  split
  · simp
  · intro o ho
    simp only [List.mem_singleton] at ho
    subst ho
    exact ⟨by unfold isI; omega, h, trivial, rngE_nil⟩
theorem rng_wrapG {f : Int → Int → Edit → List Op} (hf : ∀ (len i : Int) (x : Edit), 0 ≤ i → i < len → len ≤ 1000000000 → rngE x → ∀ o ∈ f len i x, rngOp o) {e : Edit} (he : rngE e) : ∀ (l : List PStep) (t : Tree), mass t ≤ 1000000000 → rngE (wrapG f e l t).1
  | [], t, _ => by rw [wrapG]; exact he
  | s :: l, t, hm => by
    have hk := mass_get t s.at_.toNat
    have ih := rng_wrapG hf he l (t.kids.getD s.at_.toNat Tree.nil) (by omega)
    by_cases h : fitsS s t
    · by_cases h2 : (wrapG f e l (t.kids.getD s.at_.toNat Tree.nil)).2 = false ∨ (wrapG f e l (t.kids.getD s.at_.toNat Tree.nil)).1.kind = 0
      · rw [wrapG_none h h2]; exact rngE_nil
      · have hlen := massK_len t.kids
        have hmk := massKT t
        have hn : rng Tree.nil := by simp [Tree.nil, rng, rngK, isI]
        obtain ⟨f1, f2, f3⟩ := h
        by_cases h3 : t.kind = 1
        · rw [wrapG_str ⟨f1, f2, f3⟩ h2 h3]
          exact ⟨by unfold isI; omega, hn, hn, by simp, by unfold isI; omega, ⟨⟨by unfold isI; omega, ih⟩, trivial⟩, trivial⟩
        · rw [wrapG_lst ⟨f1, f2, f3⟩ h2 h3]
          exact ⟨by unfold isI; omega, hn, hn, by simp, by unfold isI; omega, trivial, rngOs_all (hf _ _ _ f2 (by omega) (by omega) ih)⟩
    · rw [wrapG_no h]; exact rngE_nil
theorem rng_opsA (len i : Int) (x : Edit) (h0 : 0 ≤ i) (h1 : i < len) (h2 : len ≤ 1000000000) (hx : rngE x) : ∀ o ∈ opsA len i x, rngOp o := by
  intro o ho
  simp only [opsA, List.mem_append, List.mem_singleton] at ho
  rcases ho with (ho | rfl) | ho
  · exact rng_keepL (by unfold isI; omega) o ho
  · exact ⟨by unfold isI; omega, by unfold isI; omega, trivial, hx⟩
  · exact rng_keepL (by unfold isI; omega) o ho
theorem rng_opsB (len i : Int) (x : Edit) (h0 : 0 ≤ i) (h1 : i < len) (h2 : len ≤ 1000000000) (hx : rngE x) : ∀ o ∈ opsB len i x, rngOp o := by
  intro o ho
  have hr : rngOp ⟨0, 1, [], Edit.nil⟩ := ⟨by unfold isI; omega, by unfold isI; omega, trivial, rngE_nil⟩
  simp only [opsB, List.mem_append, List.mem_cons, List.mem_replicate] at ho
  rcases ho with ho | rfl | ho
  · rw [ho.2]; exact hr
  · exact ⟨by unfold isI; omega, by unfold isI; omega, trivial, hx⟩
  · rw [ho.2]; exact hr
theorem c17 : Contract Try.prog cfg 17 spec17 := by
  refine make17 c56 c52 c57_76.1 ?_
  intro t l e _ hp
  simp only [pre17] at hp
  obtain ⟨⟨⟨hm, hr⟩, hme, hre⟩, hs, hl⟩ := hp
  have m1 := mass_wrapG (f := opsA) (fun len i x _ _ => by have := mass_opsA len i x; omega) e l t
  have r1 := rng_wrapG (f := opsA) rng_opsA hre l t hm
  refine vc17 _ _ _ _ ?_
  rintro y1 rfl y2 rfl y3 hy3
  rw [← hy3] at m1 r1
  (simp only [vcT, vcS])
  try simp only [vcU]
  refine ⟨⟨hm, hl⟩, fun _ => ⟨by dsimp only; omega, r1⟩, fun h => ?_, fun h => ⟨⟨by dsimp only; omega, 64, h.2⟩, ?_⟩⟩
  · have e : wrapN opsA y1 l y2 = (Edit.nil, false) := by
      rw [wrapN, if_neg]
      rw [← hy3]
      rintro ⟨a, b⟩
      rcases h with h | h
      · rw [h] at a; cases a
      · rw [h] at b; cases b
    simp only [res17, e]
    (repeat' (first | exact trivial | exact rfl | apply And.intro))
  · have e : wrapN opsA y1 l y2 = (nrmE y3, true) := by
      rw [hy3] at h ⊢
      rw [wrapN, if_pos h]
    simp only [res17, e]
    (repeat' (first | exact trivial | exact rfl | apply And.intro))
theorem c18 : Contract Try.prog cfg 18 spec18 := by
  refine make18 c58 c23_90.1 c32_78.1 ?_
  intro t l e _ hp
  simp only [pre18] at hp
  obtain ⟨⟨⟨hm, hr⟩, hme, hre⟩, hs, hl⟩ := hp
  have m1 := mass_wrapG (f := opsB) (fun len i x h0 h1 => by have := mass_opsB h0 h1 x; omega) e l t
  have r1 := rng_wrapG (f := opsB) rng_opsB hre l t hm
  refine vc18 _ _ _ _ ?_
  rintro y1 rfl y2 rfl y3 hy3
  rw [← hy3] at m1 r1
  (simp only [vcT, vcS])
  try simp only [vcU]
  refine ⟨⟨hm, hl⟩, fun _ => ⟨⟨by dsimp only; omega, r1⟩, by dsimp only; omega, by dsimp only; omega⟩, fun h => ?_, fun h => ⟨⟨by dsimp only; omega, 64, h.2⟩, ?_⟩⟩
  · have e : wrapN opsB y1 l y2 = (Edit.nil, false) := by
      rw [wrapN, if_neg]
      rw [← hy3]
      rintro ⟨a, b⟩
      rcases h with h | h
      · rw [h] at a; cases a
      · rw [h] at b; cases b
    simp only [res18, e]
    (repeat' (first | exact trivial | exact rfl | apply And.intro))
  · have e : wrapN opsB y1 l y2 = (nrmE y3, true) := by
      rw [hy3] at h ⊢
      rw [wrapN, if_pos h]
    simp only [res18, e]
    (repeat' (first | exact trivial | exact rfl | apply And.intro))
end Go.AM.Ytpjenobkibfpcaa
