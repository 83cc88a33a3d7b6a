import Derived.Test.YthokdjgpdonhgaaQD6
set_option linter.unusedSimpArgs false
set_option linter.unusedVariables false
namespace Go.AM.Ythokdjgpdonhgaa
open Go.AM Go.Proofs

def args52 : ArgL (Ref × Unit) := (.cons (aEl .ref) .nil)
def pre52 (a : Ref × Unit) : Prop := okR a.1 ∧ valE a.1
def mu52 (a : Ref × Unit) : Nat := mass (valT a.1)
noncomputable def res52 (a : Ref × Unit) : V U := .tup [(true, [.int .i64 (Tree.kind (valT a.1)), .slice (U := U) .u64 (Tree.words (valT a.1)) .unk, .slice (U := U) .tree (Tree.kids (valT a.1)) .unk]), (false, [.int .i64 0])]
noncomputable def spec52 : Fs U := fs args52 (fun a => [pre52 a]) res52

def args48 : ArgL (Option Arena × Limits × Unit) := (.cons (aPo .arena) (.cons (aEl .limits) .nil))
def pre48 (a : Option Arena × Limits × Unit) : Prop := okA a.1
noncomputable def res48 (a : Option Arena × Limits × Unit) : V U := .tup [(true, [.int .i64 (Tree.kind (normT (unfV (segO a.1) a.2.1).1)), .slice (U := U) .u64 (Tree.words (normT (unfV (segO a.1) a.2.1).1)) .unk, .slice (U := U) .tree (Tree.kids (normT (unfV (segO a.1) a.2.1).1)) .unk]), (false, [.int .i64 ((unfV (segO a.1) a.2.1).2.2)])]
noncomputable def spec48 : Fs U := fs args48 (fun a => [pre48 a]) res48

def args51 : ArgL (Unit) := .nil
def pre51 (a : Unit) : Prop := True
noncomputable def res51 (a : Unit) : V U := .c (.bool true)
noncomputable def spec51 : Fs U := fs args51 (fun a => [pre51 a]) res51

def args14 : ArgL (List (List Int) × Limits × Unit) := (.cons (aSl .words) (.cons (aEl .limits) .nil))
def pre14 (a : List (List Int) × Limits × Unit) : Prop := okSeg a.1
noncomputable def res14 (a : List (List Int) × Limits × Unit) : V U := .c (.bool true)
noncomputable def spec14 : Fs U := fs args14 (fun a => [pre14 a]) res14

noncomputable def know52 (N : Nat) : List (FuncId × Fs U) := (52, fs args52 (fun a => [pre52 a, mu52 a < N]) res52) :: [(22, spec22), (59, spec59), (25, spec25), (23, spec23), (24, spec24)]
def lv52 : Lives U := fun i => match i with
  | 0 => ([(1, []), (2, [])], [((.loc 1), []), ((.loc 2), [])])
  | 1 => ([(1, []), (2, []), (4, [])], [((.loc 1), []), ((.loc 2), []), ((.loc 4), [])])
  | 2 => ([(1, []), (2, []), (4, []), (14, []), (15, [])], [((.loc 1), []), ((.loc 2), []), ((.loc 4), [.any, .own .u64])])
  | 3 => ([(1, []), (2, []), (4, []), (14, []), (15, []), (16, [])], [((.loc 1), []), ((.loc 2), []), ((.loc 4), [])])
  | 4 => ([(1, []), (2, []), (4, []), (5, []), (14, []), (15, [])], [((.loc 1), []), ((.loc 2), []), ((.loc 4), [])])
  | 5 => ([(1, []), (2, []), (4, []), (14, []), (15, [])], [((.loc 1), []), ((.loc 2), []), ((.loc 4), [])])
  | 6 => ([(1, []), (2, []), (4, []), (14, []), (15, [])], [((.loc 1), []), ((.loc 2), []), ((.loc 4), [.any, .own .u64])])
  | 7 => ([(1, []), (2, []), (4, []), (28, []), (29, [])], [((.loc 1), []), ((.loc 2), []), ((.loc 4), [.any, .any, .own .tree])])
  | 8 => ([(1, []), (2, []), (4, []), (28, []), (29, []), (30, [])], [((.loc 1), []), ((.loc 2), []), ((.loc 4), [])])
  | 9 => ([(1, []), (2, []), (4, []), (6, []), (28, []), (29, [])], [((.loc 1), []), ((.loc 2), []), ((.loc 4), [])])
  | 10 => ([(1, []), (2, []), (4, []), (7, []), (8, []), (28, []), (29, [])], [((.loc 1), []), ((.loc 2), []), ((.loc 4), []), ((.loc 7), [])])
  | 11 => ([(1, []), (2, []), (4, []), (7, []), (8, []), (28, []), (29, []), (39, [])], [((.loc 1), []), ((.loc 2), []), ((.loc 4), []), ((.loc 7), [])])
  | 12 => ([(2, []), (3, [])], [((.loc 2), [])])
  | 13 => ([(1, []), (2, []), (4, []), (8, []), (9, []), (28, []), (29, [])], [((.loc 1), []), ((.loc 2), []), ((.loc 4), []), ((.loc 9), [])])
  | 14 => ([(1, []), (2, []), (4, []), (8, []), (9, []), (28, []), (29, []), (48, [])], [((.loc 1), []), ((.loc 2), []), ((.loc 4), []), ((.loc 9), [])])
  | 15 => ([(2, []), (3, [])], [((.loc 2), [])])
  | 16 => ([(1, []), (2, []), (4, []), (28, []), (29, [])], [((.loc 1), []), ((.loc 2), []), ((.loc 4), [])])
  | 17 => ([(1, []), (2, []), (4, []), (28, []), (29, [])], [((.loc 1), []), ((.loc 2), []), ((.loc 4), [.any, .any, .own .tree])])
  | 18 => ([(2, []), (3, [])], [((.loc 2), [])])
  | _ => ([], [])
noncomputable def head52_0 (r : Ref) (x15 : Int) (ml4_1 : List Int) : LSt U := (⟨[(1, .ptr (.loc 1) 0), (2, .ptr (.loc 2) 0), (4, .ptr (.loc 4) 0), (14, .c (.int .i64 (lenR (Ref.mk (Ref.a r) (Ref.kind r) (Ref.segment r) (Ref.at_ r) (Ref.data r) (Ref.kids r) (Ref.count r) (Ref.number r))))), (15, .c (.int .i64 x15))], [((.loc 1), [.po (U := U) .arena (Ref.a r), .int .i64 (Ref.kind r), .int .i64 (Ref.segment r), .int .i64 (Ref.at_ r), .int .i64 (Ref.data r), .int .i64 (Ref.kids r), .int .i64 (Ref.count r), .int .u64 (Ref.number r)]), ((.loc 2), [.int .i64 0, .nils, .nils]), ((.loc 4), [.int .i64 (Ref.kind (Ref.mk (Ref.a r) (Ref.kind r) (Ref.segment r) (Ref.at_ r) (Ref.data r) (Ref.kids r) (Ref.count r) (Ref.number r))), .slice (U := U) .u64 ml4_1 (.own (.l 4 1)), .nils])], []⟩ : LSt U)
noncomputable def head52_1 (r : Ref) (ml4_1 : List Int) (x29_a : Int) (ml4_2_a : List Tree) : LSt U := (⟨[(1, .ptr (.loc 1) 0), (2, .ptr (.loc 2) 0), (4, .ptr (.loc 4) 0), (28, .c (.int .i64 (kidsR (Ref.mk (Ref.a r) (Ref.kind r) (Ref.segment r) (Ref.at_ r) (Ref.data r) (Ref.kids r) (Ref.count r) (Ref.number r))))), (29, .c (.int .i64 x29_a))], [((.loc 1), [.po (U := U) .arena (Ref.a r), .int .i64 (Ref.kind r), .int .i64 (Ref.segment r), .int .i64 (Ref.at_ r), .int .i64 (Ref.data r), .int .i64 (Ref.kids r), .int .i64 (Ref.count r), .int .u64 (Ref.number r)]), ((.loc 2), [.int .i64 0, .nils, .nils]), ((.loc 4), [.int .i64 (Ref.kind (Ref.mk (Ref.a r) (Ref.kind r) (Ref.segment r) (Ref.at_ r) (Ref.data r) (Ref.kids r) (Ref.count r) (Ref.number r))), .slice (U := U) .u64 ml4_1 (.own (.l 4 1)), .slice (U := U) .tree ml4_2_a (.own (.l 4 2))])], []⟩ : LSt U)
noncomputable abbrev A52 (N : Nat) (p : List Nat) := awp cfg (know (know52 N)) (drawOk cfg (know (know52 N))) Try.f52.ntmps lv52 (cd Try.f52 p)
noncomputable abbrev S52 (N : Nat) (p : List Nat) := seqK cfg (know (know52 N)) (drawOk cfg (know (know52 N))) Try.f52.ntmps lv52 (cd Try.f52 p)
theorem vc52 (N : Nat) (r : Ref) (Q : AExit → LSt U → Prop) (h : ((pre22 ((Ref.mk (Ref.a r) (Ref.kind r) (Ref.segment r) (Ref.at_ r) (Ref.data r) (Ref.kids r) (Ref.count r) (Ref.number r)), ())) ∧ ((pre59 ((Ref.mk (Ref.a r) (Ref.kind r) (Ref.segment r) (Ref.at_ r) (Ref.data r) (Ref.kids r) (Ref.count r) (Ref.number r)), ())) ∧ (LoopWp (A52 N [1, 1, 0, 1, 0, 0]) (head52_0 r 0 ([])) (AExit.inBlock 0 (S52 N [1, 1, 1] Q)))))) :
    A52 N [] (⟨[(0, .agg [.po (U := U) .arena (Ref.a r), .int .i64 (Ref.kind r), .int .i64 (Ref.segment r), .int .i64 (Ref.at_ r), .int .i64 (Ref.data r), .int .i64 (Ref.kids r), .int .i64 (Ref.count r), .int .u64 (Ref.number r)])], [], []⟩ : LSt U) Q :=
  Eq.mpr (by kernel_rfl) h
theorem vc52_l0 (N : Nat) (r : Ref) (x15 : Int) (ml4_1 : List Int) (N0 : LSt U → Prop) (Q : AExit → LSt U → Prop) (h : (((decide ((x15 : Int) < (lenR (Ref.mk (Ref.a r) (Ref.kind r) (Ref.segment r) (Ref.at_ r) (Ref.data r) (Ref.kids r) (Ref.count r) (Ref.number r))))) = true → ((pre25 ((Ref.mk (Ref.a r) (Ref.kind r) (Ref.segment r) (Ref.at_ r) (Ref.data r) (Ref.kids r) (Ref.count r) (Ref.number r)), x15, ())) ∧ ((ml4_1.length + ([wordR (Ref.mk (Ref.a r) (Ref.kind r) (Ref.segment r) (Ref.at_ r) (Ref.data r) (Ref.kids r) (Ref.count r) (Ref.number r)) x15]).length) * 8 ≤ 140737488355328) ∧ ((InR ((x15 : Int) + 1)) ∧ (N0 (head52_0 r ((x15 : Int) + 1) (ml4_1 ++ ([wordR (Ref.mk (Ref.a r) (Ref.kind r) (Ref.segment r) (Ref.at_ r) (Ref.data r) (Ref.kids r) (Ref.count r) (Ref.number r)) x15]))))))) ∧ ((decide ((x15 : Int) < (lenR (Ref.mk (Ref.a r) (Ref.kind r) (Ref.segment r) (Ref.at_ r) (Ref.data r) (Ref.kids r) (Ref.count r) (Ref.number r))))) = false → (pre23 ((Ref.mk (Ref.a r) (Ref.kind r) (Ref.segment r) (Ref.at_ r) (Ref.data r) (Ref.kids r) (Ref.count r) (Ref.number r)), ())) ∧ (LoopWp (A52 N [1, 1, 1, 0, 1, 0, 0]) (head52_1 r ml4_1 0 ([])) (AExit.inBlock 2 (S52 N [1, 1, 1, 1] Q)))))) :
    A52 N [1, 1, 0, 1, 0, 0] (head52_0 r x15 ml4_1) (AExit.then N0 (AExit.inBlock 0 (S52 N [1, 1, 1] Q))) :=
  Eq.mpr (by kernel_rfl) h
theorem vc52_l1 (N : Nat) (r : Ref) (ml4_1 : List Int) (x29_a : Int) (ml4_2_a : List Tree) (N1 : LSt U → Prop) (Q : AExit → LSt U → Prop) (h : ∀ y_1, y_1 = (r) → ∀ y_2, y_2 = (liftX (Ref.a y_1) (kidX (segO (Ref.a y_1)) (unX y_1) x29_a).1) → ∀ y_3, y_3 = (y_2) → ∀ y_4, y_4 = ((valT y_3)) → (((decide ((x29_a : Int) < (kidsR y_1))) = true → ((pre24 (y_1, x29_a, ())) ∧ (((((((kidX (segO (Ref.a y_1)) (unX y_1) x29_a).2) : Int) != 0) = true → (Q .ret (⟨[(2, .ptr (.loc 2) 0), (3, .c (.int .i64 ((kidX (segO (Ref.a y_1)) (unX y_1) x29_a).2)))], [((.loc 2), [.int .i64 0, .nils, .nils])], []⟩ : LSt U))) ∧ (((((kidX (segO (Ref.a y_1)) (unX y_1) x29_a).2) : Int) != 0) = false → (pre52 (y_3, ())) ∧ (mu52 (y_3, ()) < N) ∧ (((((0 : Int) != 0) = true → (Q .ret (⟨[(2, .ptr (.loc 2) 0), (3, .c (.int .i64 0))], [((.loc 2), [.int .i64 0, .nils, .nils])], []⟩ : LSt U))) ∧ (((0 : Int) != 0) = false → ((ml4_2_a.length + ([y_4]).length) * 56 ≤ 140737488355328) ∧ ((InR ((x29_a : Int) + 1)) ∧ (N1 (head52_1 r ml4_1 ((x29_a : Int) + 1) (ml4_2_a ++ ([y_4]))))))))))))) ∧ ((decide ((x29_a : Int) < (kidsR y_1))) = false → (Q .ret (⟨[(2, .ptr (.loc 2) 0), (3, .c (.int .i64 0))], [((.loc 2), [.int .i64 (Ref.kind y_1), .slice (U := U) .u64 ml4_1 (.own (.l 2 1)), .slice (U := U) .tree ml4_2_a (.own (.l 2 2))])], []⟩ : LSt U))))) :
    A52 N [1, 1, 1, 0, 1, 0, 0] (head52_1 r ml4_1 x29_a ml4_2_a) (AExit.then N1 (AExit.inBlock 2 (S52 N [1, 1, 1, 1] Q))) :=
  Eq.mpr (by kernel_rfl) (h _ (reRef_eq _) _ rfl _ (reRef_eq _) _ (reTree_eq _))
def Body52 (N : Nat) (r : Ref)  : Prop := awp cfg (know (know52 N)) (drawOk cfg (know (know52 N))) Try.f52.ntmps lv52 (cd Try.f52 []) (entry (args52.can (r, ())) []) (EndsQ cfg Try.f52.ntmps Try.f52.results.toList (res52 (r, ())) [])
theorem make52 (c22 : Contract Try.prog cfg 22 spec22) (c59 : Contract Try.prog cfg 59 spec59) (c25 : Contract Try.prog cfg 25 spec25) (c23 : Contract Try.prog cfg 23 spec23) (c24 : Contract Try.prog cfg 24 spec24) (hb : ∀ (N : Nat) (r : Ref) (_ : Unit), pre52 (r, ()) → mu52 (r, ()) < N + 1 → Body52 N r) : Contract Try.prog cfg 52 spec52 :=
  contract_rec (μ := mu52) (l := [(22, spec22), (59, spec59), (25, spec25), (23, spec23), (24, spec24)]) cfgOk rfl (⟨c22, c59, c25, c23, c24, trivial⟩) lv52 Try.func52 rfl rfl 1 (fun _ => rfl) (by decide) (fun N ⟨r, _⟩ => hb N r ())

noncomputable def know48 : List (FuncId × Fs U) := [(40, spec40), (21, spec21), (52, spec52), (72, spec72)]
def lv48 : Lives U := fun i => match i with
  | 0 => ([(0, []), (3, []), (4, [])], [((.loc 3), []), ((.loc 4), [])])
  | 1 => ([(0, []), (4, []), (7, [])], [((.loc 4), [])])
  | 2 => ([(0, []), (4, []), (7, []), (18, [])], [((.loc 4), [])])
  | 3 => ([(4, []), (5, [])], [((.loc 4), [])])
  | 4 => ([(4, []), (8, []), (9, [])], [((.loc 4), []), ((.loc 8), [])])
  | 5 => ([(4, []), (8, []), (9, []), (27, [])], [((.loc 4), []), ((.loc 8), [])])
  | 6 => ([(4, []), (5, [])], [((.loc 4), [])])
  | 7 => ([(4, []), (9, []), (10, [])], [((.loc 4), []), ((.loc 10), [])])
  | 8 => ([(4, []), (5, [])], [((.loc 4), [])])
  | _ => ([], [])
noncomputable abbrev A48 (p : List Nat) := awp cfg (know know48) (drawOk cfg (know know48)) Try.f48.ntmps lv48 (cd Try.f48 p)
theorem vc48 (a : Option Arena) (x : Limits) (Q : AExit → LSt U → Prop) (h : ∀ y_1, y_1 = (x) → ∀ y_2, y_2 = ((liftX a (refAt (segO a) 0 0).1)) → ∀ y_3, y_3 = ((valT y_2)) → ((pre40 (a, y_1, ())) ∧ (((((((unfV (segO a) y_1).2.2) : Int) != 0) = true → (Q .ret (⟨[(4, .ptr (.loc 4) 0), (5, .c (.int .i64 ((unfV (segO a) y_1).2.2)))], [((.loc 4), [.int .i64 0, .nils, .nils])], []⟩ : LSt U))) ∧ (((((unfV (segO a) y_1).2.2) : Int) != 0) = false → (pre21 (a, ())) ∧ (((((((refAt (segO a) 0 0).2) : Int) != 0) = true → (Q .ret (⟨[(4, .ptr (.loc 4) 0), (5, .c (.int .i64 ((refAt (segO a) 0 0).2)))], [((.loc 4), [.int .i64 0, .nils, .nils])], []⟩ : LSt U))) ∧ (((((refAt (segO a) 0 0).2) : Int) != 0) = false → (pre52 (y_2, ())) ∧ ((pre72 (y_3, ())) ∧ (Q .ret (⟨[(4, .ptr (.loc 4) 0), (5, .c (.int .i64 0))], [((.loc 4), [.int .i64 (Tree.kind (normT y_3)), .slice (U := U) .u64 (Tree.words (normT y_3)) .unk, .slice (U := U) .tree (Tree.kids (normT y_3)) .unk])], []⟩ : LSt U))))))))))) :
    A48 [] (⟨[(0, .c (.po (U := U) .arena a)), (1, .agg [.int .i64 (Limits.depth x), .int .i64 (Limits.weight x), .int .i64 (Limits.maxD x), .int .i64 (Limits.maxOut x)])], [], []⟩ : LSt U) Q :=
  Eq.mpr (by kernel_rfl) (h _ (reLimits_eq _) _ (reRef_eq _) _ (reTree_eq _))
def Body48 (a : Option Arena) (x : Limits)  : Prop := awp cfg (know (know48)) (drawOk cfg (know (know48))) Try.f48.ntmps lv48 (cd Try.f48 []) (entry (args48.can (a, x, ())) []) (EndsQ cfg Try.f48.ntmps Try.f48.results.toList (res48 (a, x, ())) [])
theorem make48 (c40 : Contract Try.prog cfg 40 spec40) (c21 : Contract Try.prog cfg 21 spec21) (c52 : Contract Try.prog cfg 52 spec52) (c72 : Contract Try.prog cfg 72 spec72) (hb : ∀ (a : Option Arena) (x : Limits) (_ : Unit), pre48 (a, x, ()) → Body48 a x) : Contract Try.prog cfg 48 spec48 :=
  contract_flat (l := [(40, spec40), (21, spec21), (52, spec52), (72, spec72)]) cfgOk rfl (⟨c40, c21, c52, c72, trivial⟩) lv48 Try.func48 rfl rfl 2 (fun _ => rfl) (by decide) (fun ⟨a, x, _⟩ => hb a x ())

noncomputable def know51 : List (FuncId × Fs U) := [(20, spec20), (48, spec48)]
def lv51 : Lives U := fun i => match i with
  | 0 => ([], [])
  | 1 => ([(1, []), (2, [])], [((.loc 1), [])])
  | 2 => ([(0, [])], [])
  | _ => ([], [])
noncomputable abbrev A51 (p : List Nat) := awp cfg (know know51) (drawOk cfg (know know51)) Try.f51.ntmps lv51 (cd Try.f51 p)
theorem vc51 (Q : AExit → LSt U → Prop) (h : ∀ y_1, y_1 = (unfV (segO (some (Arena.mk ([[4294967296, 0]]) 0 0 0))) (Limits.mk 1 2 0 0)) → ((pre20 (([[4294967296, 0]]), ())) ∧ (pre48 ((some (Arena.mk ([[4294967296, 0]]) 0 0 0)), (Limits.mk 1 2 0 0), ())) ∧ ((Tr ((((y_1.2.2) : Int) == 0) = true)) ∧ (Tr ((((y_1.2.2) : Int) == 0) = true)) ∧ ((Tr ((((y_1.2.2) : Int) == 0) = true))) ∧ (Tr ((bif (((y_1.2.2) : Int) == 0) then (((Tree.kind (normT y_1.1)) : Int) == 1) else false) = true)) ∧ (Tr ((bif (((y_1.2.2) : Int) == 0) then (((Tree.kind (normT y_1.1)) : Int) == 1) else false) = true)) ∧ (Tr ((bif (((y_1.2.2) : Int) == 0) then (((Tree.kind (normT y_1.1)) : Int) == 1) else false) = true)) ∧ (Tr ((bif (((y_1.2.2) : Int) == 0) then (((Tree.kind (normT y_1.1)) : Int) == 1) else false) = true)) ∧ (Tr ((bif (((y_1.2.2) : Int) == 0) then (((Tree.kind (normT y_1.1)) : Int) == 1) else false) = true)) ∧ (Tr ((bif (((y_1.2.2) : Int) == 0) then (((Tree.kind (normT y_1.1)) : Int) == 1) else false) = true)) ∧ ((bif (((y_1.2.2) : Int) == 0) then (((Tree.kind (normT y_1.1)) : Int) == 1) else false) = true → InR ((((Tree.words (normT y_1.1)).length : Int) : Int) + ((Tree.kids (normT y_1.1)).length : Int))) ∧ (Tr ((bif (((y_1.2.2) : Int) == 0) then (((Tree.kind (normT y_1.1)) : Int) == 1) else false) = true)) ∧ ((Tr ((bif (((y_1.2.2) : Int) == 0) then (((Tree.kind (normT y_1.1)) : Int) == 1) else false) = true))) ∧ (Q .ret (⟨[(0, .c (.bool (bif (bif (((y_1.2.2) : Int) == 0) then (((Tree.kind (normT y_1.1)) : Int) == 1) else false) then ((((((Tree.words (normT y_1.1)).length : Int) : Int) + ((Tree.kids (normT y_1.1)).length : Int)) : Int) == 0) else false)))], [], []⟩ : LSt U))))) :
    A51 [] (⟨[], [], []⟩ : LSt U) Q :=
  Eq.mpr (by kernel_rfl) (h _ rfl)
def Body51  : Prop := awp cfg (know (know51)) (drawOk cfg (know (know51))) Try.f51.ntmps lv51 (cd Try.f51 []) (entry (args51.can (())) []) (EndsQ cfg Try.f51.ntmps Try.f51.results.toList (res51 (())) [])
theorem make51 (c20 : Contract Try.prog cfg 20 spec20) (c48 : Contract Try.prog cfg 48 spec48) (hb : ∀ (_ : Unit), pre51 (()) → Body51 ) : Contract Try.prog cfg 51 spec51 :=
  contract_flat (l := [(20, spec20), (48, spec48)]) cfgOk rfl (⟨c20, c48, trivial⟩) lv51 Try.func51 rfl rfl 0 (fun _ => rfl) (by decide) (fun _ => hb  ())

noncomputable def know14 : List (FuncId × Fs U) := [(39, spec39), (41, spec41), (51, spec51), (20, spec20), (21, spec21), (52, spec52), (49, spec49)]
def lv14 : Lives U := fun i => match i with
  | 0 => ([(0, []), (3, [])], [((.loc 3), [])])
  | 1 => ([(0, []), (3, [])], [((.loc 3), [])])
  | 2 => ([(0, []), (5, []), (7, [])], [((.loc 5), [])])
  | 3 => ([(0, []), (5, []), (22, [])], [((.loc 5), [])])
  | 4 => ([(4, [])], [])
  | 5 => ([(5, []), (8, []), (9, [])], [((.loc 5), []), ((.loc 8), [])])
  | 6 => ([(5, []), (9, []), (10, []), (11, [])], [((.loc 5), []), ((.loc 10), [])])
  | 7 => ([(4, [])], [])
  | _ => ([], [])
noncomputable abbrev A14 (p : List Nat) := awp cfg (know know14) (drawOk cfg (know know14)) Try.f14.ntmps lv14 (cd Try.f14 p)
theorem vc14 (l : List (List Int)) (x : Limits) (Q : AExit → LSt U → Prop) (h : ∀ y_1, y_1 = (x) → ∀ y_2, y_2 = (liftX (some (Arena.mk l 0 0 0)) (refAt (segO (some (Arena.mk l 0 0 0))) 0 0).1) → ∀ y_3, y_3 = (y_2) → ∀ y_4, y_4 = ((lightV y_1)) → ∀ y_5, y_5 = ((valT y_3)) → ∀ y_6, y_6 = (((unfV l y_4).1)) → ((pre39 (y_1, ())) ∧ ((pre41 (l, y_4, ())) ∧ (((((((unfV l y_4).2.2) : Int) != 0) = true → (pre51 (())) ∧ (Q .ret (⟨[(4, .c (.bool true))], [], []⟩ : LSt U))) ∧ (((((unfV l y_4).2.2) : Int) != 0) = false → (pre20 (l, ())) ∧ (pre21 ((some (Arena.mk l 0 0 0)), ())) ∧ ((pre52 (y_3, ())) ∧ ((Tr (((((refAt (segO (some (Arena.mk l 0 0 0))) 0 0).2) : Int) == 0) = true)) ∧ ((Tr (((((refAt (segO (some (Arena.mk l 0 0 0))) 0 0).2) : Int) == 0) = true))) ∧ (Tr ((bif ((((refAt (segO (some (Arena.mk l 0 0 0))) 0 0).2) : Int) == 0) then ((0 : Int) == 0) else false) = true)) ∧ (Tr ((bif ((((refAt (segO (some (Arena.mk l 0 0 0))) 0 0).2) : Int) == 0) then ((0 : Int) == 0) else false) = true)) ∧ ((bif ((((refAt (segO (some (Arena.mk l 0 0 0))) 0 0).2) : Int) == 0) then ((0 : Int) == 0) else false) = true → pre49 (y_5, y_6, ())) ∧ ((Tr ((bif ((((refAt (segO (some (Arena.mk l 0 0 0))) 0 0).2) : Int) == 0) then ((0 : Int) == 0) else false) = true))) ∧ ((bif (bif ((((refAt (segO (some (Arena.mk l 0 0 0))) 0 0).2) : Int) == 0) then ((0 : Int) == 0) else false) then (sameT y_5 y_6) else false) = true → pre51 (())) ∧ ((Tr ((bif (bif ((((refAt (segO (some (Arena.mk l 0 0 0))) 0 0).2) : Int) == 0) then ((0 : Int) == 0) else false) then (sameT y_5 y_6) else false) = true))) ∧ (Q .ret (⟨[(4, .c (.bool (bif (bif (bif ((((refAt (segO (some (Arena.mk l 0 0 0))) 0 0).2) : Int) == 0) then ((0 : Int) == 0) else false) then (sameT y_5 y_6) else false) then true else false)))], [], []⟩ : LSt U)))))))))) :
    A14 [] (⟨[(0, .c (.slice (U := U) .words l .unk)), (1, .agg [.int .i64 (Limits.depth x), .int .i64 (Limits.weight x), .int .i64 (Limits.maxD x), .int .i64 (Limits.maxOut x)])], [], []⟩ : LSt U) Q :=
  Eq.mpr (by kernel_rfl) (h _ (reLimits_eq _) _ rfl _ (reRef_eq _) _ (reLimits_eq _) _ (reTree_eq _) _ (reTree_eq _))
def Body14 (l : List (List Int)) (x : Limits)  : Prop := awp cfg (know (know14)) (drawOk cfg (know (know14))) Try.f14.ntmps lv14 (cd Try.f14 []) (entry (args14.can (l, x, ())) []) (EndsQ cfg Try.f14.ntmps Try.f14.results.toList (res14 (l, x, ())) [])
theorem make14 (c39 : Contract Try.prog cfg 39 spec39) (c41 : Contract Try.prog cfg 41 spec41) (c51 : Contract Try.prog cfg 51 spec51) (c20 : Contract Try.prog cfg 20 spec20) (c21 : Contract Try.prog cfg 21 spec21) (c52 : Contract Try.prog cfg 52 spec52) (c49 : Contract Try.prog cfg 49 spec49) (hb : ∀ (l : List (List Int)) (x : Limits) (_ : Unit), pre14 (l, x, ()) → Body14 l x) : Contract Try.prog cfg 14 spec14 :=
  contract_flat (l := [(39, spec39), (41, spec41), (51, spec51), (20, spec20), (21, spec21), (52, spec52), (49, spec49)]) cfgOk rfl (⟨c39, c41, c51, c20, c21, c52, c49, trivial⟩) lv14 Try.func14 rfl rfl 2 (fun _ => rfl) (by decide) (fun ⟨l, x, _⟩ => hb l x ())

end Go.AM.Ythokdjgpdonhgaa

namespace Go.AM.Ythokdjgpdonhgaa
open Go.AM Go.Proofs

theorem take_getD {α : Type} (l : List α) (d : α) (i : Int) (h0 : 0 ≤ i) (h : i < l.length) : l.take i.toNat ++ [l.getD i.toNat d] = l.take (i + 1).toNat := by
  rw [show (i + 1).toNat = i.toNat + 1 by omega, List.getD_eq_getElem?_getD, List.getElem?_eq_getElem (show i.toNat < l.length by omega), Option.getD_some]
  exact List.take_append_getElem (by omega)

theorem mass_kid {k : Int} {w : List Int} {ks : List Tree} {i : Nat} (h : i < ks.length) : mass (ks.getD i Tree.nil) < mass (.mk k w ks) := by
  have := massK_get h
  rw [mass]
  omega

theorem c52 : Contract Try.prog cfg 52 spec52 := by
  refine make52 c22 c59 c25 c23 c24 ?_
  rintro N r _ hp hN
  obtain ⟨hr, he⟩ := hp
  dsimp only at hr he
  have hN' : mass (valT r) < N + 1 := hN
  have hg := val_good hr he
  obtain ⟨ks, e0, hks, hkid⟩ := val_kids hr.1 hr.2 he
  have e0' : valT r = ⟨r.kind, wordsX (segO r.a) (unX r), ks⟩ := e0
  have hkd : kidsR r = ks.length := by rw [kidsR_un]; exact hks.symm
  have hw : ((wordsX (segO r.a) (unX r)).length : Int) = lenR r := by
    rw [(wordsX_rng hr.1 hr.2).2]
    have hk : (unX r).kind = r.kind := rfl
    have hd : (unX r).data = r.data := rfl
    rw [hk, hd]
    unfold lenR
    by_cases h1 : r.kind = 1
    · simp [h1]
    · simp [h1]
  have hm : (wordsX (segO r.a) (unX r)).length + ks.length ≤ 140000 := by
    have h1 := hg.2.2
    have h2 := massK_len ks
    rw [e0', mass] at h1
    omega
  have fin : EndsQ cfg Try.f52.ntmps Try.f52.results.toList (res52 (r, ())) [] .ret (⟨[(2, .ptr (.loc 2) 0), (3, .c (.int .i64 0))], [((.loc 2), [.int .i64 r.kind, .slice .u64 (wordsX (segO r.a) (unX r)) (.own (.l 2 1)), .slice .tree ks (.own (.l 2 2))])], []⟩ : LSt U) := by
    have h : EndsQ cfg Try.f52.ntmps Try.f52.results.toList (.tup [(true, enc .tree ⟨r.kind, wordsX (segO r.a) (unX r), ks⟩), (false, [.int .i64 0])]) [] .ret (⟨[(2, .ptr (.loc 2) 0), (3, .c (.int .i64 0))], [((.loc 2), [.int .i64 r.kind, .slice .u64 (wordsX (segO r.a) (unX r)) (.own (.l 2 1)), .slice .tree ks (.own (.l 2 2))])], []⟩ : LSt U) := by (repeat' (first | exact trivial | exact rfl | refine And.intro ?_ ?_))
    refine ends_eq ?_ h
    simp only [res52]
    rw [e0']
    rfl
  refine vc52 N _ _ ?_
  refine ⟨trivial, trivial, ?_⟩
  refine loop_rule (ι := Int) (fun p => head52_0 r p ((wordsX (segO r.a) (unX r)).take p.toNat)) (fun p => 0 ≤ p ∧ p ≤ lenR r) (fun p => (lenR r - p).toNat) 0 rfl ⟨by omega, by omega⟩ ?_
  rintro i ⟨h1, h2⟩
  refine vc52_l0 _ _ _ _ _ _ ?_
  (simp only [vcT, bif_tl, bif_fr, bif_tlf, bif_frf, Bool.not_eq_true', Bool.not_eq_false', decide_eq_true_eq, decide_eq_false_iff_not, beq_iff_eq, beq_eq_false_iff_ne, bne_iff_ne, ne_eq, bne_eq_false_iff_eq, Bool.or_eq_true, Bool.and_eq_true, Bool.or_eq_false_iff, Bool.and_eq_false_imp])
  refine ⟨fun hi => ⟨hr, by simp only [List.length_append, List.length_take, List.length_cons, List.length_nil]; omega, by ((unfold InR; omega)), i + 1, ?_, ⟨by omega, ?_⟩, ?_⟩, fun hi => ⟨trivial, ?_⟩⟩
  · show head52_0 r (i + 1) (_ ++ [wordR r i]) = head52_0 r (i + 1) _
    have hi' : i < lenR r := hi
    rw [← take_getD (wordsX (segO r.a) (unX r)) 0 i h1 (by omega)]
    unfold wordR
    rw [if_neg (by omega)]
  · have hi' : i < lenR r := hi
    omega
  · have hi' : i < lenR r := hi
    omega
  · have hi' : ¬ i < lenR r := hi
    rw [List.take_of_length_le (by omega)]
    refine loop_rule (ι := Int) (fun p => head52_1 r (wordsX (segO r.a) (unX r)) p (ks.take p.toNat)) (fun p => 0 ≤ p ∧ p ≤ ks.length) (fun p => ((ks.length : Int) - p).toNat) 0 rfl ⟨by omega, by omega⟩ ?_
    rintro j ⟨g1, g2⟩
    refine vc52_l1 _ _ _ _ _ _ _ ?_
    rintro y1 hy1 y2 hy2 y3 hy3 y4 hy4
    replace hy1 := hy1.symm
    subst hy1
    subst hy3
    (simp only [vcT, bif_tl, bif_fr, bif_tlf, bif_frf, Bool.not_eq_true', Bool.not_eq_false', decide_eq_true_eq, decide_eq_false_iff_not, beq_iff_eq, beq_eq_false_iff_ne, bne_iff_ne, ne_eq, bne_eq_false_iff_eq, Bool.or_eq_true, Bool.and_eq_true, Bool.or_eq_false_iff, Bool.and_eq_false_imp])
    rw [hkd]
    refine ⟨fun hj => ?_, fun hj => ?_⟩
    · obtain ⟨q1, q2, q3⟩ := hkid j g1 (by rw [← hks]; exact hj)
      have hkx := okX_kid hr.1 hr.2 j
      have hl := val_lift hkx
      rw [← hy2] at hl
      rw [← hl.1, ← hy4] at q3
      have hmk := mass_kid (k := r.kind) (w := wordsX (segO r.a) (unX r)) (ks := ks) (i := j.toNat) (by omega)
      rw [q3, ← e0'] at hmk
      refine ⟨hr, fun h => absurd q1 h, fun _ => ⟨⟨?_, hl.2 q2⟩, ?_, fun h => absurd trivial h, by simp only [List.length_append, List.length_take, List.length_cons, List.length_nil]; omega, by ((unfold InR; omega)), j + 1, ?_, ⟨by omega, by omega⟩, by omega⟩⟩
      · show okR y3
        rw [hy2]
        exact okR_lift hr.1 hkx
      · show mass (valT y3) < N
        rw [← hy4]
        omega
      · rw [← take_getD ks Tree.nil j g1 hj, q3]
    · rw [List.take_of_length_le (by omega)]
      exact fin

theorem c48 : Contract Try.prog cfg 48 spec48 := by
  refine make48 c40 c21 c52 c72 ?_
  rintro a x _ ha
  simp only [pre48] at ha
  refine vc48 _ _ _ ?_
  rintro y1 hy1 y2 hy2 y3 hy3
  replace hy1 := hy1.symm
  subst hy1
  (simp only [vcT, bif_tl, bif_fr, bif_tlf, bif_frf, Bool.not_eq_true', Bool.not_eq_false', decide_eq_true_eq, decide_eq_false_iff_not, beq_iff_eq, beq_eq_false_iff_ne, bne_iff_ne, ne_eq, bne_eq_false_iff_eq, Bool.or_eq_true, Bool.and_eq_true, Bool.or_eq_false_iff, Bool.and_eq_false_imp])
  have fin : ∀ {T : Tree} {e : Int}, normT (unfV (segO a) x).1 = T → (unfV (segO a) x).2.2 = e → ∀ {s : LSt U},
      EndsQ cfg Try.f48.ntmps Try.f48.results.toList (.tup [(true, enc .tree T), (false, [.int .i64 e])]) [] .ret s → EndsQ cfg Try.f48.ntmps Try.f48.results.toList (res48 (a, x, ())) [] .ret s := by
    intro T e h1 h2 s hs
    refine ends_eq ?_ hs
    simp only [res48]
    rw [h1, h2]
    rfl
  refine ⟨ha, fun he => fin (T := Tree.nil) (by rw [unf_nil he]; rfl) rfl (by (repeat' (first | exact trivial | exact rfl | refine And.intro ?_ ?_))), fun he => ?_⟩
  obtain ⟨u1, u2, u3⟩ := unf_root he
  have hx := okX_at ha 0 0
  have hl := val_lift hx
  rw [← hy2] at hl
  have hok : okR y2 := by rw [hy2]; exact okR_lift ha hx
  have hg := val_good hok (hl.2 u2)
  rw [← hl.1, ← hy3] at u3
  rw [← hy3] at hg
  refine ⟨ha, fun h => absurd u1 h, fun _ => ⟨⟨hok, hl.2 u2⟩, by show mass y3 ≤ _; omega, fin (T := normT y3) (by rw [u3]) he (by (repeat' (first | exact trivial | exact rfl | refine And.intro ?_ ?_)))⟩⟩

theorem aw_ok11 : okSeg [[4294967296, 0]] := by
  refine ⟨by decide, fun w hw => ?_⟩
  simp only [List.mem_singleton] at hw
  subst hw
  refine ⟨by decide, fun x hx => ?_⟩
  simp only [List.mem_cons, List.not_mem_nil, or_false] at hx
  omega

theorem c51 : Contract Try.prog cfg 51 spec51 := by
  refine make51 c20 c48 ?_
  rintro  _ hp
  refine vc51 _ ?_
  rintro y1 hy1
  have e1 : unfV (segO (some (Arena.mk [[4294967296, 0]] 0 0 0))) (Limits.mk 1 2 0 0) = (⟨1, [0], []⟩, 2, 0) := by rfl
  rw [e1] at hy1
  subst hy1
  have e2 : normT ⟨1, [0], []⟩ = ⟨1, [], []⟩ := by rfl
  dsimp only
  rw [e2]
  (simp only [vcT, bif_tl, bif_fr, bif_tlf, bif_frf, Bool.not_eq_true', Bool.not_eq_false', decide_eq_true_eq, decide_eq_false_iff_not, beq_iff_eq, beq_eq_false_iff_ne, bne_iff_ne, ne_eq, bne_eq_false_iff_eq, Bool.or_eq_true, Bool.and_eq_true, Bool.or_eq_false_iff, Bool.and_eq_false_imp])
  exact ⟨aw_ok11, aw_ok11, fun _ => by simp [InR], ends_bool rfl rfl⟩

theorem c14 : Contract Try.prog cfg 14 spec14 := by
  refine make14 c39 c41 c51 c20 c21 c52 c49 ?_
  rintro l x _ hl
  simp only [pre14] at hl
  refine vc14 _ _ _ ?_
  rintro y1 h1 y2 h2 y3 h3 y4 h4 y5 h5 y6 h6
  have hA : segO (some (Arena.mk l 0 0 0)) = l := rfl
  rw [hA] at h2 ⊢
  (simp only [vcT, bif_tl, bif_fr, bif_tlf, bif_frf, Bool.not_eq_true', Bool.not_eq_false', decide_eq_true_eq, decide_eq_false_iff_not, beq_iff_eq, beq_eq_false_iff_ne, bne_iff_ne, ne_eq, bne_eq_false_iff_eq, Bool.or_eq_true, Bool.and_eq_true, Bool.or_eq_false_iff, Bool.and_eq_false_imp])
  refine ⟨trivial, hl, fun he => ⟨trivial, ends_bool rfl rfl⟩, fun he => ?_⟩
  obtain ⟨u1, u2, u3⟩ := unf_root he
  have hx := okX_at hl 0 0
  have hlf := val_lift (a := some (Arena.mk l 0 0 0)) hx
  rw [← h2, ← h3] at hlf
  have hok : okR y3 := by rw [h3, h2]; exact okR_lift hl hx
  have hg := val_good hok (hlf.2 u2)
  have e56 : y5 = y6 := by rw [h5, h6, hlf.1, u3]; rfl
  rw [← h5] at hg
  subst e56
  refine ⟨hl, hl, ⟨hok, hlf.2 u2⟩, fun _ => by simp only [pre49]; omega, fun _ => trivial, ends_bool rfl ?_⟩
  simp [sameT, u1]
end Go.AM.Ythokdjgpdonhgaa
