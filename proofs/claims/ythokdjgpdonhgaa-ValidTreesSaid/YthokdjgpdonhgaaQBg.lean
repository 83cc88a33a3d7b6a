import Derived.Test.YthokdjgpdonhgaaQBd
set_option linter.unusedSimpArgs false
set_option linter.unusedVariables false
namespace Go.AM.Ythokdjgpdonhgaa
open Go.AM Go.Proofs

def args44 : ArgL (Tree × Unit) := (.cons (aEl .tree) .nil)
def pre44 (a : Tree × Unit) : Prop := mass a.1 ≤ 1000000
def mu44 (a : Tree × Unit) : Nat := mass a.1
noncomputable def res44 (a : Tree × Unit) : V U := .c (.int .i64 (depthT a.1))
noncomputable def spec44 : Fs U := fs args44 (fun a => [pre44 a]) res44

def args46 : ArgL (Tree × Unit) := (.cons (aEl .tree) .nil)
def pre46 (a : Tree × Unit) : Prop := mass a.1 ≤ 1000000
def mu46 (a : Tree × Unit) : Nat := mass a.1
noncomputable def res46 (a : Tree × Unit) : V U := .c (.int .i64 (weight a.1))
noncomputable def spec46 : Fs U := fs args46 (fun a => [pre46 a]) res46

def args9 : ArgL (List (List Int) × Limits × Unit) := (.cons (aSl .words) (.cons (aEl .limits) .nil))
def pre9 (a : List (List Int) × Limits × Unit) : Prop := okSeg a.1
noncomputable def res9 (a : List (List Int) × Limits × Unit) : V U := .c (.bool true)
noncomputable def spec9 : Fs U := fs args9 (fun a => [pre9 a]) res9

noncomputable def know44 (N : Nat) : List (FuncId × Fs U) := (44, fs args44 (fun a => [pre44 a, mu44 a < N]) res44) :: []
def lv44 : Lives U := fun i => match i with
  | 0 => ([(1, [])], [((.loc 1), [])])
  | 1 => ([(1, []), (13, [])], [((.loc 1), [])])
  | 2 => ([(2, [])], [])
  | 3 => ([(1, []), (3, [])], [((.loc 1), [])])
  | 4 => ([(1, []), (3, []), (4, [])], [((.loc 1), [])])
  | 5 => ([(1, []), (3, []), (4, []), (18, [])], [((.loc 1), [])])
  | 6 => ([(1, []), (3, []), (4, [])], [((.loc 1), [])])
  | 7 => ([(1, []), (3, []), (4, []), (5, [])], [((.loc 1), [])])
  | 8 => ([(1, []), (3, []), (4, []), (5, []), (30, [])], [((.loc 1), [])])
  | 9 => ([(1, []), (3, []), (4, [])], [((.loc 1), [])])
  | 10 => ([(2, [])], [])
  | _ => ([], [])
noncomputable def head44_0 (t : Tree) (x3 : Int) (x4 : Int) : LSt U := (⟨[(1, .ptr (.loc 1) 0), (3, .c (.int .i64 x3)), (4, .c (.int .i64 x4))], [((.loc 1), [.int .i64 (Tree.kind t), .slice (U := U) .u64 (Tree.words t) .unk, .slice (U := U) .tree (Tree.kids t) .unk])], []⟩ : LSt U)
noncomputable abbrev A44 (N : Nat) (p : List Nat) := awp cfg (know (know44 N)) (drawOk cfg (know (know44 N))) Try.f44.ntmps lv44 (cd Try.f44 p)
noncomputable abbrev S44 (N : Nat) (p : List Nat) := seqK cfg (know (know44 N)) (drawOk cfg (know (know44 N))) Try.f44.ntmps lv44 (cd Try.f44 p)
theorem vc44 (N : Nat) (t : Tree) (Q : AExit → LSt U → Prop) (h : ((Tr ((!(((Tree.kind t) : Int) == 0)) = true)) ∧ (Tr ((!(((Tree.kind t) : Int) == 0)) = true)) ∧ (((((Tree.kind t) : Int) == 0) = false → (!(((Tree.kind t) : Int) == 0)) = true)) ∧ (((bif (((Tree.kind t) : Int) == 0) then true else (((Tree.kind t) : Int) == 10)) = true → (Q .ret (⟨[(2, .c (.int .i64 0))], [], []⟩ : LSt U))) ∧ ((bif (((Tree.kind t) : Int) == 0) then true else (((Tree.kind t) : Int) == 10)) = false → ((LoopWp (A44 N [1, 1, 1, 0, 1, 0, 0]) (head44_0 t 1 0) (AExit.inBlock 0 (S44 N [1, 1, 1, 1] Q)))))))) :
    A44 N [] (⟨[(0, .agg [.int .i64 (Tree.kind t), .slice (U := U) .u64 (Tree.words t) .unk, .slice (U := U) .tree (Tree.kids t) .unk])], [], []⟩ : LSt U) Q :=
  Eq.mpr (by kernel_rfl) h
theorem vc44_l0 (N : Nat) (t : Tree) (x3 : Int) (x4 : Int) (N0 : LSt U → Prop) (Q : AExit → LSt U → Prop) (h : (((decide ((x4 : Int) < ((Tree.kids t).length : Int))) = true → ((0 : Int) ≤ x4 ∧ x4 < ((Tree.kids t).length : Int)) ∧ (pre44 ((Tree.mk (Tree.kind (List.getD (Tree.kids t) (Int.toNat x4) Tree.nil)) (Tree.words (List.getD (Tree.kids t) (Int.toNat x4) Tree.nil)) (Tree.kids (List.getD (Tree.kids t) (Int.toNat x4) Tree.nil))), ())) ∧ (mu44 ((Tree.mk (Tree.kind (List.getD (Tree.kids t) (Int.toNat x4) Tree.nil)) (Tree.words (List.getD (Tree.kids t) (Int.toNat x4) Tree.nil)) (Tree.kids (List.getD (Tree.kids t) (Int.toNat x4) Tree.nil))), ()) < N) ∧ ((InR (((depthT (Tree.mk (Tree.kind (List.getD (Tree.kids t) (Int.toNat x4) Tree.nil)) (Tree.words (List.getD (Tree.kids t) (Int.toNat x4) Tree.nil)) (Tree.kids (List.getD (Tree.kids t) (Int.toNat x4) Tree.nil)))) : Int) + 1)) ∧ (((decide ((x3 : Int) < (((depthT (Tree.mk (Tree.kind (List.getD (Tree.kids t) (Int.toNat x4) Tree.nil)) (Tree.words (List.getD (Tree.kids t) (Int.toNat x4) Tree.nil)) (Tree.kids (List.getD (Tree.kids t) (Int.toNat x4) Tree.nil)))) : Int) + 1))) = true → (InR (((depthT (Tree.mk (Tree.kind (List.getD (Tree.kids t) (Int.toNat x4) Tree.nil)) (Tree.words (List.getD (Tree.kids t) (Int.toNat x4) Tree.nil)) (Tree.kids (List.getD (Tree.kids t) (Int.toNat x4) Tree.nil)))) : Int) + 1)) ∧ ((InR ((x4 : Int) + 1)) ∧ (N0 (head44_0 t (((depthT (Tree.mk (Tree.kind (List.getD (Tree.kids t) (Int.toNat x4) Tree.nil)) (Tree.words (List.getD (Tree.kids t) (Int.toNat x4) Tree.nil)) (Tree.kids (List.getD (Tree.kids t) (Int.toNat x4) Tree.nil)))) : Int) + 1) ((x4 : Int) + 1))))) ∧ ((decide ((x3 : Int) < (((depthT (Tree.mk (Tree.kind (List.getD (Tree.kids t) (Int.toNat x4) Tree.nil)) (Tree.words (List.getD (Tree.kids t) (Int.toNat x4) Tree.nil)) (Tree.kids (List.getD (Tree.kids t) (Int.toNat x4) Tree.nil)))) : Int) + 1))) = false → (InR ((x4 : Int) + 1)) ∧ (N0 (head44_0 t x3 ((x4 : Int) + 1))))))) ∧ ((decide ((x4 : Int) < ((Tree.kids t).length : Int))) = false → (Q .ret (⟨[(2, .c (.int .i64 x3))], [], []⟩ : LSt U))))) :
    A44 N [1, 1, 1, 0, 1, 0, 0] (head44_0 t x3 x4) (AExit.then N0 (AExit.inBlock 0 (S44 N [1, 1, 1, 1] Q))) :=
  Eq.mpr (by kernel_rfl) h
def Body44 (N : Nat) (t : Tree)  : Prop := awp cfg (know (know44 N)) (drawOk cfg (know (know44 N))) Try.f44.ntmps lv44 (cd Try.f44 []) (entry (args44.can (t, ())) []) (EndsQ cfg Try.f44.ntmps Try.f44.results.toList (res44 (t, ())) [])
theorem make44 (hb : ∀ (N : Nat) (t : Tree) (_ : Unit), pre44 (t, ()) → mu44 (t, ()) < N + 1 → Body44 N t) : Contract Try.prog cfg 44 spec44 :=
  contract_rec (μ := mu44) (l := []) cfgOk rfl (trivial) lv44 Try.func44 rfl rfl 1 (fun _ => rfl) (by decide) (fun N ⟨t, _⟩ => hb N t ())

noncomputable def know46 (N : Nat) : List (FuncId × Fs U) := (46, fs args46 (fun a => [pre46 a, mu46 a < N]) res46) :: []
def lv46 : Lives U := fun i => match i with
  | 0 => ([(1, [])], [((.loc 1), [])])
  | 1 => ([(1, []), (7, [])], [((.loc 1), [])])
  | 2 => ([(2, [])], [])
  | 3 => ([(1, []), (3, [])], [((.loc 1), [])])
  | 4 => ([(1, []), (3, []), (10, [])], [((.loc 1), [])])
  | 5 => ([(1, []), (3, [])], [((.loc 1), [])])
  | 6 => ([(1, []), (3, []), (4, [])], [((.loc 1), [])])
  | 7 => ([(1, []), (3, []), (4, []), (20, [])], [((.loc 1), [])])
  | 8 => ([(1, []), (3, []), (4, [])], [((.loc 1), [])])
  | 9 => ([(1, []), (3, []), (4, [])], [((.loc 1), [])])
  | 10 => ([(1, []), (3, []), (4, []), (38, [])], [((.loc 1), [])])
  | 11 => ([(1, []), (3, []), (4, [])], [((.loc 1), [])])
  | 12 => ([(2, [])], [])
  | _ => ([], [])
noncomputable def head46_0 (t : Tree) (x3 : Int) (x4 : Int) : LSt U := (⟨[(1, .ptr (.loc 1) 0), (3, .c (.int .i64 x3)), (4, .c (.int .i64 x4))], [((.loc 1), [.int .i64 (Tree.kind t), .slice (U := U) .u64 (Tree.words t) .unk, .slice (U := U) .tree (Tree.kids t) .unk])], []⟩ : LSt U)
noncomputable abbrev A46 (N : Nat) (p : List Nat) := awp cfg (know (know46 N)) (drawOk cfg (know (know46 N))) Try.f46.ntmps lv46 (cd Try.f46 p)
noncomputable abbrev S46 (N : Nat) (p : List Nat) := seqK cfg (know (know46 N)) (drawOk cfg (know (know46 N))) Try.f46.ntmps lv46 (cd Try.f46 p)
theorem vc46 (N : Nat) (t : Tree) (Q : AExit → LSt U → Prop) (h : ((((((Tree.kind t) : Int) == 0) = true → (Q .ret (⟨[(2, .c (.int .i64 0))], [], []⟩ : LSt U))) ∧ ((((Tree.kind t) : Int) == 0) = false → ((((((Tree.kind t) : Int) == 1) = true → (InR ((1 : Int) + ((Tree.words t).length : Int))) ∧ ((LoopWp (A46 N [1, 1, 1, 1, 0, 1, 0, 0]) (head46_0 t ((1 : Int) + ((Tree.words t).length : Int)) 0) (AExit.inBlock 0 (S46 N [1, 1, 1, 1, 1] Q))))) ∧ ((((Tree.kind t) : Int) == 1) = false → (LoopWp (A46 N [1, 1, 1, 1, 0, 1, 0, 0]) (head46_0 t 1 0) (AExit.inBlock 0 (S46 N [1, 1, 1, 1, 1] Q)))))))))) :
    A46 N [] (⟨[(0, .agg [.int .i64 (Tree.kind t), .slice (U := U) .u64 (Tree.words t) .unk, .slice (U := U) .tree (Tree.kids t) .unk])], [], []⟩ : LSt U) Q :=
  Eq.mpr (by kernel_rfl) h
theorem vc46_l0 (N : Nat) (t : Tree) (x3 : Int) (x4 : Int) (N0 : LSt U → Prop) (Q : AExit → LSt U → Prop) (h : ∀ y_1, y_1 = (List.getD (Tree.kids t) (Int.toNat x4) Tree.nil) → ∀ y_2, y_2 = (y_1) → (((decide ((x4 : Int) < ((Tree.kids t).length : Int))) = true → ((0 : Int) ≤ x4 ∧ x4 < ((Tree.kids t).length : Int)) ∧ (pre46 (y_2, ())) ∧ (mu46 (y_2, ()) < N) ∧ (InR ((x3 : Int) + (weight y_2))) ∧ ((Tr ((!(((Tree.kind t) : Int) == 1)) = true)) ∧ (Tr ((!(((Tree.kind t) : Int) == 1)) = true)) ∧ (((((Tree.kind t) : Int) == 1) = false → (!(((Tree.kind t) : Int) == 1)) = true)) ∧ (((bif (((Tree.kind t) : Int) == 1) then true else (((Tree.kind t) : Int) == 8)) = true → (InR ((((x3 : Int) + (weight y_2)) : Int) + 1)) ∧ ((InR ((x4 : Int) + 1)) ∧ (N0 (head46_0 t ((((x3 : Int) + (weight y_2)) : Int) + 1) ((x4 : Int) + 1))))) ∧ ((bif (((Tree.kind t) : Int) == 1) then true else (((Tree.kind t) : Int) == 8)) = false → (InR ((x4 : Int) + 1)) ∧ (N0 (head46_0 t ((x3 : Int) + (weight y_2)) ((x4 : Int) + 1))))))) ∧ ((decide ((x4 : Int) < ((Tree.kids t).length : Int))) = false → (Q .ret (⟨[(2, .c (.int .i64 x3))], [], []⟩ : LSt U))))) :
    A46 N [1, 1, 1, 1, 0, 1, 0, 0] (head46_0 t x3 x4) (AExit.then N0 (AExit.inBlock 0 (S46 N [1, 1, 1, 1, 1] Q))) :=
  Eq.mpr (by kernel_rfl) (h _ rfl _ (reTree_eq _))
def Body46 (N : Nat) (t : Tree)  : Prop := awp cfg (know (know46 N)) (drawOk cfg (know (know46 N))) Try.f46.ntmps lv46 (cd Try.f46 []) (entry (args46.can (t, ())) []) (EndsQ cfg Try.f46.ntmps Try.f46.results.toList (res46 (t, ())) [])
theorem make46 (hb : ∀ (N : Nat) (t : Tree) (_ : Unit), pre46 (t, ()) → mu46 (t, ()) < N + 1 → Body46 N t) : Contract Try.prog cfg 46 spec46 :=
  contract_rec (μ := mu46) (l := []) cfgOk rfl (trivial) lv46 Try.func46 rfl rfl 1 (fun _ => rfl) (by decide) (fun N ⟨t, _⟩ => hb N t ())

noncomputable def know9 : List (FuncId × Fs U) := [(39, spec39), (20, spec20), (40, spec40), (41, spec41), (43, spec43), (44, spec44), (45, spec45), (46, spec46), (42, spec42)]
def lv9 : Lives U := fun i => match i with
  | 0 => ([(0, []), (3, [])], [((.loc 3), [])])
  | 1 => ([(0, []), (3, [])], [((.loc 3), [])])
  | 2 => ([(0, []), (3, []), (5, []), (6, [])], [((.loc 3), [])])
  | 3 => ([(3, []), (5, []), (6, []), (7, []), (9, [])], [((.loc 3), []), ((.loc 7), [])])
  | 4 => ([(3, []), (5, []), (7, []), (9, []), (27, [])], [((.loc 3), []), ((.loc 7), [])])
  | 5 => ([(4, [])], [])
  | 6 => ([(4, [])], [])
  | _ => ([], [])
noncomputable abbrev A9 (p : List Nat) := awp cfg (know know9) (drawOk cfg (know know9)) Try.f9.ntmps lv9 (cd Try.f9 p)
theorem vc9 (l : List (List Int)) (x : Limits) (Q : AExit → LSt U → Prop) (h : ∀ y_1, y_1 = (x) → ∀ y_2, y_2 = ((lightV y_1)) → ∀ y_3, y_3 = (((unfV l y_2).1)) → ((pre39 (y_1, ())) ∧ ((pre20 (l, ())) ∧ (pre40 ((some (Arena.mk l 0 0 0)), y_2, ())) ∧ ((pre41 (l, y_2, ())) ∧ (((((((unfV (segO (some (Arena.mk l 0 0 0))) y_2).2.2) : Int) != 0) = true → (((((unfV l y_2).2.2) : Int) != 0) = true → pre42 (())) ∧ ((Tr (((((unfV l y_2).2.2) : Int) != 0) = true))) ∧ (Q .ret (⟨[(4, .c (.bool (bif ((((unfV l y_2).2.2) : Int) != 0) then true else false)))], [], []⟩ : LSt U))) ∧ (((((unfV (segO (some (Arena.mk l 0 0 0))) y_2).2.2) : Int) != 0) = false → (Tr (((((unfV l y_2).2.2) : Int) == 0) = true)) ∧ (((((unfV l y_2).2.2) : Int) == 0) = true → pre43 (y_3, 64, ())) ∧ ((Tr (((((unfV l y_2).2.2) : Int) == 0) = true))) ∧ (Tr ((bif ((((unfV l y_2).2.2) : Int) == 0) then (rightT y_3 64) else false) = true)) ∧ ((bif ((((unfV l y_2).2.2) : Int) == 0) then (rightT y_3 64) else false) = true → pre44 (y_3, ())) ∧ (Tr ((bif ((((unfV l y_2).2.2) : Int) == 0) then (rightT y_3 64) else false) = true)) ∧ ((bif ((((unfV l y_2).2.2) : Int) == 0) then (rightT y_3 64) else false) = true → pre45 (y_2, ())) ∧ (Tr ((bif ((((unfV l y_2).2.2) : Int) == 0) then (rightT y_3 64) else false) = true)) ∧ (Tr ((bif ((((unfV l y_2).2.2) : Int) == 0) then (rightT y_3 64) else false) = true)) ∧ (Tr ((bif ((((unfV l y_2).2.2) : Int) == 0) then (rightT y_3 64) else false) = true)) ∧ ((Tr ((bif ((((unfV l y_2).2.2) : Int) == 0) then (rightT y_3 64) else false) = true))) ∧ (Tr ((bif (bif ((((unfV l y_2).2.2) : Int) == 0) then (rightT y_3 64) else false) then (decide (((depthT y_3) : Int) ≤ (Limits.depth (limV y_2)))) else false) = true)) ∧ ((bif (bif ((((unfV l y_2).2.2) : Int) == 0) then (rightT y_3 64) else false) then (decide (((depthT y_3) : Int) ≤ (Limits.depth (limV y_2)))) else false) = true → pre46 (y_3, ())) ∧ (Tr ((bif (bif ((((unfV l y_2).2.2) : Int) == 0) then (rightT y_3 64) else false) then (decide (((depthT y_3) : Int) ≤ (Limits.depth (limV y_2)))) else false) = true)) ∧ (Tr ((bif (bif ((((unfV l y_2).2.2) : Int) == 0) then (rightT y_3 64) else false) then (decide (((depthT y_3) : Int) ≤ (Limits.depth (limV y_2)))) else false) = true)) ∧ ((Tr ((bif (bif ((((unfV l y_2).2.2) : Int) == 0) then (rightT y_3 64) else false) then (decide (((depthT y_3) : Int) ≤ (Limits.depth (limV y_2)))) else false) = true))) ∧ (Tr ((bif (bif (bif ((((unfV l y_2).2.2) : Int) == 0) then (rightT y_3 64) else false) then (decide (((depthT y_3) : Int) ≤ (Limits.depth (limV y_2)))) else false) then (((weight y_3) : Int) == ((unfV (segO (some (Arena.mk l 0 0 0))) y_2).2.1)) else false) = true)) ∧ ((bif (bif (bif ((((unfV l y_2).2.2) : Int) == 0) then (rightT y_3 64) else false) then (decide (((depthT y_3) : Int) ≤ (Limits.depth (limV y_2)))) else false) then (((weight y_3) : Int) == ((unfV (segO (some (Arena.mk l 0 0 0))) y_2).2.1)) else false) = true → pre45 (y_2, ())) ∧ (Tr ((bif (bif (bif ((((unfV l y_2).2.2) : Int) == 0) then (rightT y_3 64) else false) then (decide (((depthT y_3) : Int) ≤ (Limits.depth (limV y_2)))) else false) then (((weight y_3) : Int) == ((unfV (segO (some (Arena.mk l 0 0 0))) y_2).2.1)) else false) = true)) ∧ (Tr ((bif (bif (bif ((((unfV l y_2).2.2) : Int) == 0) then (rightT y_3 64) else false) then (decide (((depthT y_3) : Int) ≤ (Limits.depth (limV y_2)))) else false) then (((weight y_3) : Int) == ((unfV (segO (some (Arena.mk l 0 0 0))) y_2).2.1)) else false) = true)) ∧ (Tr ((bif (bif (bif ((((unfV l y_2).2.2) : Int) == 0) then (rightT y_3 64) else false) then (decide (((depthT y_3) : Int) ≤ (Limits.depth (limV y_2)))) else false) then (((weight y_3) : Int) == ((unfV (segO (some (Arena.mk l 0 0 0))) y_2).2.1)) else false) = true)) ∧ ((Tr ((bif (bif (bif ((((unfV l y_2).2.2) : Int) == 0) then (rightT y_3 64) else false) then (decide (((depthT y_3) : Int) ≤ (Limits.depth (limV y_2)))) else false) then (((weight y_3) : Int) == ((unfV (segO (some (Arena.mk l 0 0 0))) y_2).2.1)) else false) = true))) ∧ ((bif (bif (bif (bif ((((unfV l y_2).2.2) : Int) == 0) then (rightT y_3 64) else false) then (decide (((depthT y_3) : Int) ≤ (Limits.depth (limV y_2)))) else false) then (((weight y_3) : Int) == ((unfV (segO (some (Arena.mk l 0 0 0))) y_2).2.1)) else false) then (decide ((((unfV (segO (some (Arena.mk l 0 0 0))) y_2).2.1) : Int) ≤ (Limits.weight (limV y_2)))) else false) = true → pre42 (())) ∧ ((Tr ((bif (bif (bif (bif ((((unfV l y_2).2.2) : Int) == 0) then (rightT y_3 64) else false) then (decide (((depthT y_3) : Int) ≤ (Limits.depth (limV y_2)))) else false) then (((weight y_3) : Int) == ((unfV (segO (some (Arena.mk l 0 0 0))) y_2).2.1)) else false) then (decide ((((unfV (segO (some (Arena.mk l 0 0 0))) y_2).2.1) : Int) ≤ (Limits.weight (limV y_2)))) else false) = true))) ∧ (Q .ret (⟨[(4, .c (.bool (bif (bif (bif (bif (bif ((((unfV l y_2).2.2) : Int) == 0) then (rightT y_3 64) else false) then (decide (((depthT y_3) : Int) ≤ (Limits.depth (limV y_2)))) else false) then (((weight y_3) : Int) == ((unfV (segO (some (Arena.mk l 0 0 0))) y_2).2.1)) else false) then (decide ((((unfV (segO (some (Arena.mk l 0 0 0))) y_2).2.1) : Int) ≤ (Limits.weight (limV y_2)))) else false) then true else false)))], [], []⟩ : LSt U))))))))) :
    A9 [] (⟨[(0, .c (.slice (U := U) .words l .unk)), (1, .agg [.int .i64 (Limits.depth x), .int .i64 (Limits.weight x), .int .i64 (Limits.maxD x), .int .i64 (Limits.maxOut x)])], [], []⟩ : LSt U) Q :=
  Eq.mpr (by kernel_rfl) (h _ (reLimits_eq _) _ (reLimits_eq _) _ (reTree_eq _))
def Body9 (l : List (List Int)) (x : Limits)  : Prop := awp cfg (know (know9)) (drawOk cfg (know (know9))) Try.f9.ntmps lv9 (cd Try.f9 []) (entry (args9.can (l, x, ())) []) (EndsQ cfg Try.f9.ntmps Try.f9.results.toList (res9 (l, x, ())) [])
theorem make9 (c39 : Contract Try.prog cfg 39 spec39) (c20 : Contract Try.prog cfg 20 spec20) (c40 : Contract Try.prog cfg 40 spec40) (c41 : Contract Try.prog cfg 41 spec41) (c43 : Contract Try.prog cfg 43 spec43) (c44 : Contract Try.prog cfg 44 spec44) (c45 : Contract Try.prog cfg 45 spec45) (c46 : Contract Try.prog cfg 46 spec46) (c42 : Contract Try.prog cfg 42 spec42) (hb : ∀ (l : List (List Int)) (x : Limits) (_ : Unit), pre9 (l, x, ()) → Body9 l x) : Contract Try.prog cfg 9 spec9 :=
  contract_flat (l := [(39, spec39), (20, spec20), (40, spec40), (41, spec41), (43, spec43), (44, spec44), (45, spec45), (46, spec46), (42, spec42)]) cfgOk rfl (⟨c39, c20, c40, c41, c43, c44, c45, c46, c42, trivial⟩) lv9 Try.func9 rfl rfl 2 (fun _ => rfl) (by decide) (fun ⟨l, x, _⟩ => hb l x ())

end Go.AM.Ythokdjgpdonhgaa

namespace Go.AM.Ythokdjgpdonhgaa
open Go.AM Go.Proofs

mutual
theorem depthT_mass : ∀ (t : Tree), 0 ≤ depthT t ∧ depthT t ≤ mass t
  | .mk k w ks => by
    have := depthK_mass ks 1 (by omega)
    rw [depthT, mass]
    split <;> omega
theorem depthK_mass : ∀ (ks : List Tree) (n : Int), 1 ≤ n → n ≤ depthK ks n ∧ depthK ks n ≤ n + massK ks
  | [], n, h => by rw [depthK, massK]; omega
  | t :: r, n, h => by
    have h1 := depthT_mass t
    have h2 := depthK_mass r (if n < depthT t + 1 then depthT t + 1 else n) (by split <;> omega)
    rw [depthK, massK]
    split at h2 <;> (split <;> omega)
end

theorem depthK_drop {ks : List Tree} {i n : Int} (h0 : 0 ≤ i) (h : i < ks.length) : depthK (ks.drop i.toNat) n = depthK (ks.drop (i + 1).toNat) (if n < depthT (ks.getD i.toNat Tree.nil) + 1 then depthT (ks.getD i.toNat Tree.nil) + 1 else n) := by
  have e : (i + 1).toNat = i.toNat + 1 := by omega
  rw [List.drop_eq_getElem_cons (by omega), e]
  simp only [depthK, List.getD, List.getElem?_eq_getElem (show i.toNat < ks.length by omega), Option.getD_some]

theorem c44 : Contract Try.prog cfg 44 spec44 := by
  refine make44 ?_
  rintro N ⟨k, ws, ks⟩ _ hp hN
  have hlen := massK_len ks
  simp only [pre44, mu44, mass] at hp hN
  refine vc44 N _ _ ?_
  (simp only [vcT, bif_tl, bif_fr, bif_tlf, bif_frf, Bool.not_eq_true', Bool.not_eq_false', decide_eq_true_eq, decide_eq_false_iff_not, beq_iff_eq, beq_eq_false_iff_ne, bne_iff_ne, ne_eq, bne_eq_false_iff_eq, Bool.or_eq_true, Bool.and_eq_true, Bool.or_eq_false_iff, Bool.and_eq_false_imp])
  (simp only [Tree.eta, Tree.kind_mk, Tree.words_mk, Tree.kids_mk])
  refine ⟨fun hc => ends_int rfl (by rw [depthT, if_pos hc]), fun hc => ?_⟩
  have e0 : depthT (.mk k ws ks) = depthK ks 1 := by rw [depthT, if_neg (by omega)]
  have hm0 := depthK_mass ks 1 (by omega)
  refine loop_rule (ι := Int × Int) (fun p => head44_0 (.mk k ws ks) p.1 p.2) (fun p => 0 ≤ p.2 ∧ p.2 ≤ ks.length ∧ 1 ≤ p.1 ∧ depthK (ks.drop p.2.toNat) p.1 = depthK ks 1) (fun p => ((ks.length : Int) - p.2).toNat) (1, 0) rfl ⟨by dsimp only; omega, by dsimp only; omega, by dsimp only; omega, by simp⟩ ?_
  rintro ⟨n, i⟩ ⟨h1, h2, h3, h4⟩
  dsimp only at *
  refine vc44_l0 N _ _ _ _ _ ?_
  (simp only [vcT, bif_tl, bif_fr, bif_tlf, bif_frf, Bool.not_eq_true', Bool.not_eq_false', decide_eq_true_eq, decide_eq_false_iff_not, beq_iff_eq, beq_eq_false_iff_ne, bne_iff_ne, ne_eq, bne_eq_false_iff_eq, Bool.or_eq_true, Bool.and_eq_true, Bool.or_eq_false_iff, Bool.and_eq_false_imp])
  (simp only [Tree.eta, Tree.kind_mk, Tree.words_mk, Tree.kids_mk])
  refine ⟨fun hc => ?_, fun hc => ?_⟩
  · have hm := massK_get (ks := ks) (i := i.toNat) (by omega)
    have hd := depthK_drop (n := n) h1 hc
    have hr := depthT_mass (ks.getD i.toNat Tree.nil)
    generalize ks.getD i.toNat Tree.nil = y at *
    refine ⟨by omega, by simp only [pre44]; omega, by simp only [mu44]; omega, by unfold InR; omega, fun q => ⟨by unfold InR; omega, by unfold InR; omega, (_, i + 1), rfl, ⟨by dsimp only; omega, by dsimp only; omega, by dsimp only; omega, ?_⟩, by dsimp only; omega⟩, fun q => ⟨by unfold InR; omega, (n, i + 1), rfl, ⟨by dsimp only; omega, by dsimp only; omega, by dsimp only; omega, ?_⟩, by dsimp only; omega⟩⟩
    · rw [if_pos q] at hd
      dsimp only
      rw [← h4, hd]
    · rw [if_neg q] at hd
      dsimp only
      rw [← h4, hd]
  · rw [List.drop_eq_nil_of_le (by omega), depthK] at h4
    exact ends_int rfl (by rw [e0, ← h4])

theorem c46 : Contract Try.prog cfg 46 spec46 := by
  refine make46 ?_
  rintro N ⟨k, ws, ks⟩ _ hp hN
  have hlen := massK_len ks
  have hw := weight_range (.mk k ws ks)
  simp only [pre46, mu46, mass] at hp hN hw
  have key : ∀ (n0 : Int), 0 ≤ n0 → n0 + weightK ks + (if k = 1 ∨ k = 8 then (ks.length : Int) else 0) = weight (.mk k ws ks) →
      LoopWp (A46 N [1, 1, 1, 1, 0, 1, 0, 0]) (head46_0 (.mk k ws ks) n0 0) (AExit.inBlock 0 (S46 N [1, 1, 1, 1, 1] (EndsQ cfg Try.f46.ntmps Try.f46.results.toList (res46 (.mk k ws ks, ())) []))) := by
    intro n0 hn0 hn
    refine loop_rule (ι := Int × Int) (fun p => head46_0 (.mk k ws ks) p.1 p.2) (fun p => 0 ≤ p.2 ∧ p.2 ≤ ks.length ∧ 0 ≤ p.1 ∧ p.1 + weightK (ks.drop p.2.toNat) + (if k = 1 ∨ k = 8 then (ks.length : Int) - p.2 else 0) = weight (.mk k ws ks)) (fun p => ((ks.length : Int) - p.2).toNat) (n0, 0) rfl ⟨by dsimp only; omega, by dsimp only; omega, by dsimp only; omega, by simpa using hn⟩ ?_
    rintro ⟨n, i⟩ ⟨h1, h2, h3, h4⟩
    dsimp only at *
    refine vc46_l0 N _ _ _ _ _ ?_
    (simp only [vcT, bif_tl, bif_fr, bif_tlf, bif_frf, Bool.not_eq_true', Bool.not_eq_false', decide_eq_true_eq, decide_eq_false_iff_not, beq_iff_eq, beq_eq_false_iff_ne, bne_iff_ne, ne_eq, bne_eq_false_iff_eq, Bool.or_eq_true, Bool.and_eq_true, Bool.or_eq_false_iff, Bool.and_eq_false_imp])
    (simp only [Tree.eta, Tree.kind_mk, Tree.words_mk, Tree.kids_mk])
    rintro y1 e1 y2 e2
    subst e2
    refine ⟨fun hc => ?_, fun hc => ?_⟩
    · have hm := massK_get (ks := ks) (i := i.toNat) (by omega)
      have hd := weightK_drop h1 hc
      rw [← e1] at hm hd
      have hr := weight_range y2
      have hr2 := weightK_range (ks.drop (i + 1).toNat)
      refine ⟨by omega, by simp only [pre46]; omega, by simp only [mu46]; omega, ?_, fun q => ?_, fun q => ?_⟩
      · unfold InR; split at h4 <;> omega
      · rw [if_pos q] at h4
        exact ⟨by unfold InR; omega, by unfold InR; omega, (_, i + 1), rfl, ⟨by dsimp only; omega, by dsimp only; omega, by dsimp only; omega, by dsimp only; rw [if_pos q]; omega⟩, by dsimp only; omega⟩
      · rw [if_neg (by omega)] at h4
        exact ⟨by unfold InR; omega, (_, i + 1), rfl, ⟨by dsimp only; omega, by dsimp only; omega, by dsimp only; omega, by dsimp only; rw [if_neg (by omega)]; omega⟩, by dsimp only; omega⟩
    · rw [List.drop_eq_nil_of_le (by omega)] at h4
      simp only [weightK] at h4
      refine ends_int rfl ?_
      dsimp only
      split at h4 <;> omega
  refine vc46 N _ _ ?_
  (simp only [vcT, bif_tl, bif_fr, bif_tlf, bif_frf, Bool.not_eq_true', Bool.not_eq_false', decide_eq_true_eq, decide_eq_false_iff_not, beq_iff_eq, beq_eq_false_iff_ne, bne_iff_ne, ne_eq, bne_eq_false_iff_eq, Bool.or_eq_true, Bool.and_eq_true, Bool.or_eq_false_iff, Bool.and_eq_false_imp])
  (simp only [Tree.eta, Tree.kind_mk, Tree.words_mk, Tree.kids_mk])
  refine ⟨fun hc => ends_int rfl (by rw [weight, if_pos hc]), fun hc => ⟨fun h1 => ⟨by unfold InR; omega, key _ (by omega) ?_⟩, fun h1 => key _ (by omega) ?_⟩⟩
  · rw [weight, if_neg hc, if_pos h1, if_pos (.inl h1)]; omega
  · rw [weight, if_neg hc, if_neg h1]
    split
    · rw [if_pos (by omega)]; omega
    · rw [if_neg (by omega)]; omega

theorem clamp_le (n t : Int) (h : 0 ≤ t) : 0 ≤ clampI n t ∧ clampI n t ≤ t := by unfold clampI; split <;> (try split) <;> omega

theorem unfV_good {l : List (List Int)} (hl : okSeg l) (x : Limits) (h : (unfV l x).2.2 = 0) :
    rightT (unfV l x).1 64 = true ∧ rng (unfV l x).1 ∧ depthT (unfV l x).1 ≤ (limV x).depth ∧ weight (unfV l x).1 = (unfV l x).2.1 ∧ (unfV l x).2.1 ≤ (limV x).weight ∧ mass (unfV l x).1 ≤ 140000 := by
  have hd := clamp_le x.depth 64 (by omega)
  have hw := clamp_le x.weight 65536 (by omega)
  rw [show clampI x.depth 64 = (limV x).depth from rfl] at hd
  rw [show clampI x.weight 65536 = (limV x).weight from rfl] at hw
  unfold unfV at h ⊢
  by_cases h1 : (refAt l 0 0).2 = 0
  · rw [if_pos h1] at h ⊢
    by_cases h2 : (mean l (limV x).depth.toNat (refAt l 0 0).1 (limV x).weight).2.2 = 0
    · rw [if_pos h2] at h ⊢
      obtain ⟨g1, g2, g3, g4, g5⟩ := mean_good hl (limV x).depth.toNat _ _ (okX_at hl 0 0) hw.1 hw.2 h2
      rw [Int.toNat_of_nonneg hd.1] at g2
      have hm := mass_weight _ _ g2
      refine ⟨rightT_mono _ _ _ hd.1 hd.2 g2, g3, (depthT_le _ _ hd.1 g2).2, g5, by dsimp only; omega, ?_⟩
      dsimp only
      split at hm <;> omega
    · rw [if_neg h2] at h; exact absurd h h2
  · rw [if_neg h1] at h; exact absurd h h1

theorem c9 : Contract Try.prog cfg 9 spec9 := by
  refine make9 c39 c20 c40 c41 c43 c44 c45 c46 c42 ?_
  intro l x _ hl
  simp only [pre9] at hl
  refine vc9 _ _ _ ?_
  have hA : segO (some (Arena.mk l 0 0 0)) = l := rfl
  rw [hA]
  rintro y1 h1 y2 h2 y3 h3
  (simp only [vcT, bif_tl, bif_fr, bif_tlf, bif_frf, Bool.not_eq_true', Bool.not_eq_false', decide_eq_true_eq, decide_eq_false_iff_not, beq_iff_eq, beq_eq_false_iff_ne, bne_iff_ne, ne_eq, bne_eq_false_iff_eq, Bool.or_eq_true, Bool.and_eq_true, Bool.or_eq_false_iff, Bool.and_eq_false_imp])
  refine ⟨trivial, hl, hl, hl, fun he => ⟨fun _ => trivial, ends_bool rfl ?_⟩, fun he => ?_⟩
  · simp [he]
  · obtain ⟨g1, g2, g3, g4, g5, g6⟩ := unfV_good hl y2 he
    rw [← h3] at g1 g2 g3 g4 g6
    refine ⟨fun _ => ⟨by dsimp only; omega, g2, by dsimp only; omega, by dsimp only; omega⟩, fun _ => by simp only [pre44]; omega, fun _ => trivial, fun _ => by simp only [pre46]; omega, fun _ => trivial, fun _ => trivial, ends_bool rfl ?_⟩
    simp [he, g1, g3, g4, g5]
end Go.AM.Ythokdjgpdonhgaa
