import Derived.Test.YthokdjgpdonhgaaQD4
set_option linter.unusedSimpArgs false
set_option linter.unusedVariables false
namespace Go.AM.Ythokdjgpdonhgaa
open Go.AM Go.Proofs
def args45 : ArgL (Limits × Unit) := (.cons (aEl .limits) .nil)
def pre45 (a : Limits × Unit) : Prop := True
noncomputable def res45 (a : Limits × Unit) : V U := .agg [.int .i64 (Limits.depth (limV a.1)), .int .i64 (Limits.weight (limV a.1)), .int .i64 (Limits.maxD (limV a.1)), .int .i64 (Limits.maxOut (limV a.1))]
noncomputable def spec45 : Fs U := fs args45 (fun a => [pre45 a]) res45
def args107 : ArgL (Int × Unit) := (.cons (aInt .i64) .nil)
def pre107 (a : Int × Unit) : Prop := True
noncomputable def res107 (a : Int × Unit) : V U := .c (.bool (decide (2 ≤ a.1 ∧ a.1 ≤ 7)))
noncomputable def spec107 : Fs U := fs args107 (fun a => [pre107 a]) res107
def args106 : ArgL (Ref × Unit) := (.cons (aEl .ref) .nil)
def pre106 (a : Ref × Unit) : Prop := okR a.1
noncomputable def res106 (a : Ref × Unit) : V U := .c (.int .i64 (ownX (unX a.1)))
noncomputable def spec106 : Fs U := fs args106 (fun a => [pre106 a]) res106
def args105 : ArgM ((Int × Int × Unit) × Int × Unit) := (.obj 0 (.cons (cInt .i64) (.cons (cInt .i64) .nil)) (.cons (aInt .i64) .nil))
def pre105 (a : (Int × Int × Unit) × Int × Unit) : Prop := 0 ≤ a.1.1 ∧ a.1.1 ≤ a.1.2.1 ∧ a.1.2.1 ≤ 65536 ∧ 0 ≤ a.2.1
noncomputable def res105 (a : (Int × Int × Unit) × Int × Unit) : V U := .c (.bool (decide (a.2.1 ≤ a.1.2.1 - a.1.1)))
noncomputable def resX105 (a : (Int × Int × Unit) × Int × Unit) : List (List (C U)) := [[.int .i64 (if a.2.1 ≤ a.1.2.1 - a.1.1 then a.1.1 + a.2.1 else a.1.1), .int .i64 a.1.2.1]]
noncomputable def spec105 : Fs U := fsX args105 (fun a => [pre105 a]) res105 resX105
def args77 : ArgM ((Int × Int × Unit) × Ref × Int × Unit) := (.obj 0 (.cons (cInt .i64) (.cons (cInt .i64) .nil)) (.cons (aEl .ref) (.cons (aInt .i64) .nil)))
def pre77 (a : (Int × Int × Unit) × Ref × Int × Unit) : Prop := okR a.2.1 ∧ 0 ≤ a.1.1 ∧ a.1.1 ≤ a.1.2.1 ∧ a.1.2.1 ≤ 65536 ∧ 0 ≤ a.2.2.1 ∧ a.2.2.1 ≤ 64
def mu77 (a : (Int × Int × Unit) × Ref × Int × Unit) : Nat := 3 * Int.toNat a.2.2.1
noncomputable def res77 (a : (Int × Int × Unit) × Ref × Int × Unit) : V U := .c (.int .i64 ((mean (segO (Ref.a a.2.1)) (Int.toNat a.2.2.1) (unX a.2.1) (a.1.2.1 - a.1.1)).2.2))
noncomputable def resX77 (a : (Int × Int × Unit) × Ref × Int × Unit) : List (List (C U)) := [[.int .i64 (a.1.2.1 - (mean (segO (Ref.a a.2.1)) (Int.toNat a.2.2.1) (unX a.2.1) (a.1.2.1 - a.1.1)).2.1), .int .i64 a.1.2.1]]
noncomputable def spec77 : Fs U := fsX args77 (fun a => [pre77 a]) res77 resX77
def args108 : ArgM ((Int × Int × Unit) × Ref × Int × Int × Unit) := (.obj 0 (.cons (cInt .i64) (.cons (cInt .i64) .nil)) (.cons (aEl .ref) (.cons (aInt .i64) (.cons (aInt .i64) .nil))))
def pre108 (a : (Int × Int × Unit) × Ref × Int × Int × Unit) : Prop := okR a.2.1 ∧ 0 ≤ a.1.1 ∧ a.1.1 ≤ a.1.2.1 ∧ a.1.2.1 ≤ 65536 ∧ 0 ≤ a.2.2.2.1 ∧ a.2.2.2.1 ≤ 64 ∧ (Ref.kind a.2.1 = 1 ∨ Ref.kind a.2.1 = 8 ∨ Ref.kind a.2.1 = 9)
def mu108 (a : (Int × Int × Unit) × Ref × Int × Int × Unit) : Nat := 3 * Int.toNat a.2.2.2.1 + (if Ref.kind a.2.1 = 9 then 2 else 1)
noncomputable def res108 (a : (Int × Int × Unit) × Ref × Int × Int × Unit) : V U := .c (.int .i64 ((kidV (segO (Ref.a a.2.1)) (Int.toNat a.2.2.2.1) (unX a.2.1) a.2.2.1 (a.1.2.1 - a.1.1)).2))
noncomputable def resX108 (a : (Int × Int × Unit) × Ref × Int × Int × Unit) : List (List (C U)) := [[.int .i64 (a.1.2.1 - (kidV (segO (Ref.a a.2.1)) (Int.toNat a.2.2.2.1) (unX a.2.1) a.2.2.1 (a.1.2.1 - a.1.1)).1), .int .i64 a.1.2.1]]
noncomputable def spec108 : Fs U := fsX args108 (fun a => [pre108 a]) res108 resX108
def args40 : ArgL (Option Arena × Limits × Unit) := (.cons (aPo .arena) (.cons (aEl .limits) .nil))
def pre40 (a : Option Arena × Limits × Unit) : Prop := okA a.1
noncomputable def res40 (a : Option Arena × Limits × Unit) : V U := .tup [(false, [.int .i64 ((unfV (segO a.1) a.2.1).2.1)]), (false, [.int .i64 ((unfV (segO a.1) a.2.1).2.2)])]
noncomputable def spec40 : Fs U := fs args40 (fun a => [pre40 a]) res40
noncomputable def know45 : List (FuncId × Fs U) := []
def lv45 : Lives U := fun i => match i with
  | 0 => ([(1, []), (2, [])], [((.loc 1), []), ((.loc 2), [])])
  | 1 => ([(2, [])], [((.loc 2), [])])
  | _ => ([], [])
noncomputable abbrev A45 (p : List Nat) := awp cfg (know know45) (drawOk cfg (know know45)) Try.f45.ntmps lv45 (cd Try.f45 p)
theorem vc45 (x : Limits) (Q : AExit → LSt U → Prop) (h : ((Q .ret (⟨[(2, .ptr (.loc 2) 0)], [((.loc 2), [.int .i64 (if (64 : Int) < (if ((Limits.depth x) : Int) < 0 then 0 else (Limits.depth x)) then 64 else (if ((Limits.depth x) : Int) < 0 then 0 else (Limits.depth x))), .int .i64 (if (65536 : Int) < (if ((Limits.weight x) : Int) < 0 then 0 else (Limits.weight x)) then 65536 else (if ((Limits.weight x) : Int) < 0 then 0 else (Limits.weight x))), .int .i64 (if (4096 : Int) < (if ((Limits.maxD x) : Int) < 0 then 0 else (Limits.maxD x)) then 4096 else (if ((Limits.maxD x) : Int) < 0 then 0 else (Limits.maxD x))), .int .i64 (if (131072 : Int) < (if ((Limits.maxOut x) : Int) < 0 then 0 else (Limits.maxOut x)) then 131072 else (if ((Limits.maxOut x) : Int) < 0 then 0 else (Limits.maxOut x)))])], []⟩ : LSt U)))) :
    A45 [] (⟨[(0, .agg [.int .i64 (Limits.depth x), .int .i64 (Limits.weight x), .int .i64 (Limits.maxD x), .int .i64 (Limits.maxOut x)])], [], []⟩ : LSt U) Q :=
  Eq.mpr (by kernel_rfl) h
def Body45 (x : Limits)  : Prop := awp cfg (know (know45)) (drawOk cfg (know (know45))) Try.f45.ntmps lv45 (cd Try.f45 []) (entry (args45.can (x, ())) []) (EndsQ cfg Try.f45.ntmps Try.f45.results.toList (res45 (x, ())) [])
theorem make45 (hb : ∀ (x : Limits) (_ : Unit), pre45 (x, ()) → Body45 x) : Contract Try.prog cfg 45 spec45 :=
  contract_flat (l := []) cfgOk rfl (trivial) lv45 Try.func45 rfl rfl 1 (fun _ => rfl) (by decide) (fun ⟨x, _⟩ => hb x ())
noncomputable def know107 : List (FuncId × Fs U) := []
def lv107 : Lives U := fun i => match i with
  | 0 => ([(0, [])], [])
  | 1 => ([(2, [])], [])
  | _ => ([], [])
noncomputable abbrev A107 (p : List Nat) := awp cfg (know know107) (drawOk cfg (know know107)) Try.f107.ntmps lv107 (cd Try.f107 p)
theorem vc107 (k : Int) (Q : AExit → LSt U → Prop) (h : ((Tr ((decide ((2 : Int) ≤ k)) = true)) ∧ ((Tr ((decide ((2 : Int) ≤ k)) = true))) ∧ (Q .ret (⟨[(2, .c (.bool (bif (decide ((2 : Int) ≤ k)) then (decide ((k : Int) ≤ 7)) else false)))], [], []⟩ : LSt U)))) :
    A107 [] (⟨[(0, .c (.int .i64 k))], [], []⟩ : LSt U) Q :=
  Eq.mpr (by kernel_rfl) h
def Body107 (k : Int)  : Prop := awp cfg (know (know107)) (drawOk cfg (know (know107))) Try.f107.ntmps lv107 (cd Try.f107 []) (entry (args107.can (k, ())) []) (EndsQ cfg Try.f107.ntmps Try.f107.results.toList (res107 (k, ())) [])
theorem make107 (hb : ∀ (k : Int) (_ : Unit), pre107 (k, ()) → Body107 k) : Contract Try.prog cfg 107 spec107 :=
  contract_flat (l := []) cfgOk rfl (trivial) lv107 Try.func107 rfl rfl 1 (fun _ => rfl) (by decide) (fun ⟨k, _⟩ => hb k ())
noncomputable def know106 : List (FuncId × Fs U) := [(22, spec22), (59, spec59), (23, spec23), (68, spec68)]
def lv106 : Lives U := fun i => match i with
  | 0 => ([(1, [])], [((.loc 1), [])])
  | 1 => ([(1, []), (5, [])], [((.loc 1), [])])
  | 2 => ([(2, [])], [])
  | 3 => ([(1, []), (15, [])], [((.loc 1), [])])
  | 4 => ([(1, []), (3, []), (4, [])], [((.loc 1), [])])
  | 5 => ([(2, [])], [])
  | 6 => ([(2, [])], [])
  | _ => ([], [])
noncomputable abbrev A106 (p : List Nat) := awp cfg (know know106) (drawOk cfg (know know106)) Try.f106.ntmps lv106 (cd Try.f106 p)
theorem vc106 (r : Ref) (Q : AExit → LSt U → Prop) (h : ∀ y_1, y_1 = (r) → ((pre22 (y_1, ())) ∧ (((((Ref.kind y_1) : Int) == 1) = true → (pre59 (y_1, ())) ∧ (InR ((1 : Int) + (lenR y_1))) ∧ (pre23 (y_1, ())) ∧ (InR ((((1 : Int) + (lenR y_1)) : Int) + (kidsR y_1))) ∧ (Q .ret (⟨[(2, .c (.int .i64 ((((1 : Int) + (lenR y_1)) : Int) + (kidsR y_1))))], [], []⟩ : LSt U))) ∧ ((((Ref.kind y_1) : Int) == 1) = false → (pre22 (y_1, ())) ∧ (((((Ref.kind y_1) : Int) == 9) = true → (pre68 (y_1, ())) ∧ ((pre23 (y_1, ())) ∧ (InR ((1 : Int) + (if Ref.kind y_1 = 9 then Ref.data y_1 else 0))) ∧ (InR ((((1 : Int) + (if Ref.kind y_1 = 9 then Ref.data y_1 else 0)) : Int) + (if Ref.kind y_1 = 9 then Ref.kids y_1 else 0))) ∧ (InR (((kidsR y_1) : Int) * ((((1 : Int) + (if Ref.kind y_1 = 9 then Ref.data y_1 else 0)) : Int) + (if Ref.kind y_1 = 9 then Ref.kids y_1 else 0)))) ∧ (InR ((1 : Int) + (((kidsR y_1) : Int) * ((((1 : Int) + (if Ref.kind y_1 = 9 then Ref.data y_1 else 0)) : Int) + (if Ref.kind y_1 = 9 then Ref.kids y_1 else 0))))) ∧ (Q .ret (⟨[(2, .c (.int .i64 ((1 : Int) + (((kidsR y_1) : Int) * ((((1 : Int) + (if Ref.kind y_1 = 9 then Ref.data y_1 else 0)) : Int) + (if Ref.kind y_1 = 9 then Ref.kids y_1 else 0))))))], [], []⟩ : LSt U)))) ∧ ((((Ref.kind y_1) : Int) == 9) = false → (pre23 (y_1, ())) ∧ (InR ((1 : Int) + (kidsR y_1))) ∧ (Q .ret (⟨[(2, .c (.int .i64 ((1 : Int) + (kidsR y_1))))], [], []⟩ : LSt U)))))))) :
    A106 [] (⟨[(0, .agg [.po (U := U) .arena (Ref.a r), .int .i64 (Ref.kind r), .int .i64 (Ref.segment r), .int .i64 (Ref.at_ r), .int .i64 (Ref.data r), .int .i64 (Ref.kids r), .int .i64 (Ref.count r), .int .u64 (Ref.number r)])], [], []⟩ : LSt U) Q :=
  Eq.mpr (by kernel_rfl) (h _ (reRef_eq _))
def Body106 (r : Ref)  : Prop := awp cfg (know (know106)) (drawOk cfg (know (know106))) Try.f106.ntmps lv106 (cd Try.f106 []) (entry (args106.can (r, ())) []) (EndsQ cfg Try.f106.ntmps Try.f106.results.toList (res106 (r, ())) [])
theorem make106 (c22 : Contract Try.prog cfg 22 spec22) (c59 : Contract Try.prog cfg 59 spec59) (c23 : Contract Try.prog cfg 23 spec23) (c68 : Contract Try.prog cfg 68 spec68) (hb : ∀ (r : Ref) (_ : Unit), pre106 (r, ()) → Body106 r) : Contract Try.prog cfg 106 spec106 :=
  contract_flat (l := [(22, spec22), (59, spec59), (23, spec23), (68, spec68)]) cfgOk rfl (⟨c22, c59, c23, c68, trivial⟩) lv106 Try.func106 rfl rfl 1 (fun _ => rfl) (by decide) (fun ⟨r, _⟩ => hb r ())
noncomputable def know105 : List (FuncId × Fs U) := []
def lv105 : Lives U := fun i => match i with
  | 0 => ([(0, []), (1, [])], [((.x 0), [])])
  | 1 => ([(0, []), (1, []), (15, [])], [((.x 0), [])])
  | 2 => ([(4, [])], [((.x 0), [])])
  | 3 => ([], [((.x 0), [])])
  | 4 => ([(4, [])], [((.x 0), [])])
  | _ => ([], [])
noncomputable abbrev A105 (p : List Nat) := awp cfg (know know105) (drawOk cfg (know know105)) Try.f105.ntmps lv105 (cd Try.f105 p)
theorem vc105 (u : Int) (t : Int) (n : Int) (Q : AExit → LSt U → Prop) (h : ((InR ((t : Int) - u)) ∧ (((decide ((((t : Int) - u) : Int) < n)) = true → (Q .ret (⟨[(4, .c (.bool false))], [((.x 0), [.int .i64 u, .int .i64 t])], []⟩ : LSt U))) ∧ ((decide ((((t : Int) - u) : Int) < n)) = false → (InR ((u : Int) + n)) ∧ ((Q .ret (⟨[(4, .c (.bool true))], [((.x 0), [.int .i64 ((u : Int) + n), .int .i64 t])], []⟩ : LSt U))))))) :
    A105 [] (⟨[(0, .ptr (.x 0) 0), (1, .c (.int .i64 n))], [((.x 0), [.int .i64 u, .int .i64 t])], []⟩ : LSt U) Q :=
  Eq.mpr (by kernel_rfl) h
def Body105 (u : Int) (t : Int) (n : Int)  : Prop := awp cfg (know (know105)) (drawOk cfg (know (know105))) Try.f105.ntmps lv105 (cd Try.f105 []) (entry (args105.can ((u, t, ()), n, ())) (args105.canX ((u, t, ()), n, ()))) (EndsQ cfg Try.f105.ntmps Try.f105.results.toList (res105 ((u, t, ()), n, ())) (resX105 ((u, t, ()), n, ())))
theorem make105 (hb : ∀ (u : Int) (t : Int) (n : Int) (_ : Unit), pre105 ((u, t, ()), n, ()) → Body105 u t n) : Contract Try.prog cfg 105 spec105 :=
  contractX_flat (l := []) cfgOk rfl (trivial) lv105 Try.func105 rfl rfl 2 (fun _ => rfl) (by decide) (fun ⟨⟨u, t, _⟩, n, _⟩ => hb u t n ())
noncomputable def know77 (N : Nat) : List (FuncId × Fs U) := (77, fsX args77 (fun a => [pre77 a, mu77 a < N]) res77 resX77) :: (108, fsX args108 (fun a => [pre108 a, mu108 a < N]) res108 resX108) :: [(106, spec106), (105, spec105), (107, spec107), (22, spec22), (23, spec23), (24, spec24)]
def lv77 : Lives U := fun i => match i with
  | 0 => ([(0, []), (2, []), (4, [])], [((.loc 4), []), ((.x 0), [])])
  | 1 => ([(0, []), (2, []), (4, []), (12, [])], [((.loc 4), []), ((.x 0), [])])
  | 2 => ([(6, [])], [((.x 0), [])])
  | 3 => ([(0, []), (2, []), (4, []), (7, [])], [((.loc 4), []), ((.x 0), [])])
  | 4 => ([(0, []), (2, []), (4, []), (7, []), (22, [])], [((.loc 4), []), ((.x 0), [])])
  | 5 => ([(0, []), (2, []), (4, []), (7, []), (22, [])], [((.loc 4), []), ((.x 0), [])])
  | 6 => ([(0, []), (4, []), (7, []), (37, [])], [((.loc 4), []), ((.x 0), [])])
  | 7 => ([(6, [])], [((.x 0), [])])
  | 8 => ([(0, []), (4, []), (7, []), (40, [])], [((.loc 4), []), ((.x 0), [])])
  | 9 => ([(6, [])], [((.x 0), [])])
  | 10 => ([(0, []), (4, []), (7, []), (42, []), (43, [])], [((.loc 4), []), ((.x 0), [])])
  | 11 => ([(0, []), (4, []), (7, []), (42, []), (43, []), (44, [])], [((.loc 4), []), ((.x 0), [])])
  | 12 => ([(0, []), (4, []), (7, []), (8, []), (42, []), (43, [])], [((.loc 4), []), ((.x 0), [])])
  | 13 => ([(0, []), (4, []), (7, []), (9, []), (42, []), (43, [])], [((.loc 4), []), ((.x 0), [])])
  | 14 => ([(0, []), (4, []), (7, []), (9, []), (42, []), (43, []), (52, [])], [((.loc 4), []), ((.x 0), [])])
  | 15 => ([(6, [])], [((.x 0), [])])
  | 16 => ([(0, []), (4, []), (7, []), (42, []), (43, [])], [((.loc 4), []), ((.x 0), [])])
  | 17 => ([(6, [])], [((.x 0), [])])
  | _ => ([], [])
noncomputable def head77_0 (u : Int) (t : Int) (r : Ref) (d : Int) (x7 : Int) : LSt U := (⟨[(0, .ptr (.x 0) 0), (2, .c (.int .i64 d)), (4, .ptr (.loc 4) 0), (7, .c (.int .i64 x7)), (22, .c (.bool (bif (((Ref.kind (Ref.mk (Ref.a r) (Ref.kind r) (Ref.segment r) (Ref.at_ r) (Ref.data r) (Ref.kids r) (Ref.count r) (Ref.number r))) : Int) == 9) then (decide ((0 : Int) < (kidsR (Ref.mk (Ref.a r) (Ref.kind r) (Ref.segment r) (Ref.at_ r) (Ref.data r) (Ref.kids r) (Ref.count r) (Ref.number r))))) else false)))], [((.loc 4), [.po (U := U) .arena (Ref.a r), .int .i64 (Ref.kind r), .int .i64 (Ref.segment r), .int .i64 (Ref.at_ r), .int .i64 (Ref.data r), .int .i64 (Ref.kids r), .int .i64 (Ref.count r), .int .u64 (Ref.number r)]), ((.x 0), [.int .i64 u, .int .i64 t])], []⟩ : LSt U)
noncomputable def head77_1 (u : Int) (t : Int) (r : Ref) (d : Int) (x7 : Int) (x43_a : Int) (mx0_0_a : Int) (mx0_1_a : Int) : LSt U := (⟨[(0, .ptr (.x 0) 0), (4, .ptr (.loc 4) 0), (7, .c (.int .i64 x7)), (42, .c (.int .i64 (kidsR (Ref.mk (Ref.a r) (Ref.kind r) (Ref.segment r) (Ref.at_ r) (Ref.data r) (Ref.kids r) (Ref.count r) (Ref.number r))))), (43, .c (.int .i64 x43_a))], [((.loc 4), [.po (U := U) .arena (Ref.a r), .int .i64 (Ref.kind r), .int .i64 (Ref.segment r), .int .i64 (Ref.at_ r), .int .i64 (Ref.data r), .int .i64 (Ref.kids r), .int .i64 (Ref.count r), .int .u64 (Ref.number r)]), ((.x 0), [.int .i64 mx0_0_a, .int .i64 mx0_1_a])], []⟩ : LSt U)
noncomputable abbrev A77 (N : Nat) (p : List Nat) := awp cfg (know (know77 N)) (drawOk cfg (know (know77 N))) Try.f77.ntmps lv77 (cd Try.f77 p)
noncomputable abbrev S77 (N : Nat) (p : List Nat) := seqK cfg (know (know77 N)) (drawOk cfg (know (know77 N))) Try.f77.ntmps lv77 (cd Try.f77 p)
theorem vc77 (N : Nat) (u : Int) (t : Int) (r : Ref) (d : Int) (Q : AExit → LSt U → Prop) (h : ∀ y_1, y_1 = (r) → ((pre22 (y_1, ())) ∧ (((((Ref.kind y_1) : Int) == 0) = true → (Q .ret (⟨[(6, .c (.int .i64 0))], [((.x 0), [.int .i64 u, .int .i64 t])], []⟩ : LSt U))) ∧ ((((Ref.kind y_1) : Int) == 0) = false → (InR ((d : Int) - 1)) ∧ ((pre22 (y_1, ())) ∧ (Tr ((((Ref.kind y_1) : Int) == 9) = true)) ∧ ((((Ref.kind y_1) : Int) == 9) = true → pre23 (y_1, ())) ∧ (Tr ((((Ref.kind y_1) : Int) == 9) = true)) ∧ ((Tr ((((Ref.kind y_1) : Int) == 9) = true))) ∧ (((bif (((Ref.kind y_1) : Int) == 9) then (decide ((0 : Int) < (kidsR y_1))) else false) = true → (InR ((((d : Int) - 1) : Int) - 1)) ∧ (A77 N [1, 1, 1, 1] (head77_0 u t r d ((((d : Int) - 1) : Int) - 1)) Q)) ∧ ((bif (((Ref.kind y_1) : Int) == 9) then (decide ((0 : Int) < (kidsR y_1))) else false) = false → A77 N [1, 1, 1, 1] (head77_0 u t r d ((d : Int) - 1)) Q))))))) :
    A77 N [] (⟨[(0, .ptr (.x 0) 0), (1, .agg [.po (U := U) .arena (Ref.a r), .int .i64 (Ref.kind r), .int .i64 (Ref.segment r), .int .i64 (Ref.at_ r), .int .i64 (Ref.data r), .int .i64 (Ref.kids r), .int .i64 (Ref.count r), .int .u64 (Ref.number r)]), (2, .c (.int .i64 d))], [((.x 0), [.int .i64 u, .int .i64 t])], []⟩ : LSt U) Q :=
  Eq.mpr (by kernel_rfl) (h _ (reRef_eq _))
theorem vc77_c0 (N : Nat) (u : Int) (t : Int) (r : Ref) (d : Int) (x7 : Int) (Q : AExit → LSt U → Prop) (h : ∀ y_1, y_1 = (r) → (Tr ((!(decide ((d : Int) < 1))) = true)) ∧ (((decide ((d : Int) < 1)) = false → (!(decide ((d : Int) < 1))) = true)) ∧ (Tr ((!(bif (decide ((d : Int) < 1)) then true else (decide ((x7 : Int) < 0)))) = true)) ∧ ((!(bif (decide ((d : Int) < 1)) then true else (decide ((x7 : Int) < 0)))) = true → pre106 (y_1, ())) ∧ (Tr ((!(bif (decide ((d : Int) < 1)) then true else (decide ((x7 : Int) < 0)))) = true)) ∧ (Tr ((!(bif (decide ((d : Int) < 1)) then true else (decide ((x7 : Int) < 0)))) = true)) ∧ ((!(bif (decide ((d : Int) < 1)) then true else (decide ((x7 : Int) < 0)))) = true → pre105 ((u, t, ()), (ownX (unX y_1)), ())) ∧ (Tr ((!(bif (decide ((d : Int) < 1)) then true else (decide ((x7 : Int) < 0)))) = true)) ∧ (((bif (decide ((d : Int) < 1)) then true else (decide ((x7 : Int) < 0))) = false → (!(bif (decide ((d : Int) < 1)) then true else (decide ((x7 : Int) < 0)))) = true)) ∧ (((bif (bif (decide ((d : Int) < 1)) then true else (decide ((x7 : Int) < 0))) then true else (!(decide ((ownX (unX y_1)) ≤ t - u)))) = true → (Q .ret (⟨[(6, .c (.int .i64 3))], [((.x 0), [.int .i64 (bif (!(bif (decide ((d : Int) < 1)) then true else (decide ((x7 : Int) < 0)))) then (if (ownX (unX y_1)) ≤ t - u then u + (ownX (unX y_1)) else u) else u), .int .i64 (bif (!(bif (decide ((d : Int) < 1)) then true else (decide ((x7 : Int) < 0)))) then t else t)])], []⟩ : LSt U))) ∧ ((bif (bif (decide ((d : Int) < 1)) then true else (decide ((x7 : Int) < 0))) then true else (!(decide ((ownX (unX y_1)) ≤ t - u)))) = false → (pre22 (y_1, ())) ∧ (pre107 ((Ref.kind y_1), ())) ∧ (((decide (2 ≤ (Ref.kind y_1) ∧ (Ref.kind y_1) ≤ 7)) = true → (Q .ret (⟨[(6, .c (.int .i64 0))], [((.x 0), [.int .i64 (bif (!(bif (decide ((d : Int) < 1)) then true else (decide ((x7 : Int) < 0)))) then (if (ownX (unX y_1)) ≤ t - u then u + (ownX (unX y_1)) else u) else u), .int .i64 (bif (!(bif (decide ((d : Int) < 1)) then true else (decide ((x7 : Int) < 0)))) then t else t)])], []⟩ : LSt U))) ∧ ((decide (2 ≤ (Ref.kind y_1) ∧ (Ref.kind y_1) ≤ 7)) = false → (pre23 (y_1, ())) ∧ (LoopWp (A77 N [1, 1, 1, 1, 1, 1, 0, 1, 0, 0]) (head77_1 u t r d x7 0 (bif (!(bif (decide ((d : Int) < 1)) then true else (decide ((x7 : Int) < 0)))) then (if (ownX (unX y_1)) ≤ t - u then u + (ownX (unX y_1)) else u) else u) (bif (!(bif (decide ((d : Int) < 1)) then true else (decide ((x7 : Int) < 0)))) then t else t)) (AExit.inBlock 0 (S77 N [1, 1, 1, 1, 1, 1, 1] Q)))))))) :
    A77 N [1, 1, 1, 1] (head77_0 u t r d x7) Q :=
  Eq.mpr (by kernel_rfl) (h _ (reRef_eq _))
theorem vc77_l1 (N : Nat) (u : Int) (t : Int) (r : Ref) (d : Int) (x7 : Int) (x43_a : Int) (mx0_0_a : Int) (mx0_1_a : Int) (N1 : LSt U → Prop) (Q : AExit → LSt U → Prop) (h : ∀ y_1, y_1 = (r) → ∀ y_2, y_2 = (kidV (segO (Ref.a y_1)) (Int.toNat x7) (unX y_1) x43_a (mx0_1_a - mx0_0_a)) → (((decide ((x43_a : Int) < (kidsR y_1))) = true → ((pre108 ((mx0_0_a, mx0_1_a, ()), y_1, x43_a, x7, ())) ∧ (mu108 ((mx0_0_a, mx0_1_a, ()), y_1, x43_a, x7, ()) < N) ∧ ((((((y_2.2) : Int) != 0) = true → (Q .ret (⟨[(6, .c (.int .i64 (y_2.2)))], [((.x 0), [.int .i64 (mx0_1_a - y_2.1), .int .i64 mx0_1_a])], []⟩ : LSt U))) ∧ ((((y_2.2) : Int) != 0) = false → (InR ((x43_a : Int) + 1)) ∧ (N1 (head77_1 u t r d x7 ((x43_a : Int) + 1) (mx0_1_a - y_2.1) mx0_1_a))))))) ∧ ((decide ((x43_a : Int) < (kidsR y_1))) = false → (Q .ret (⟨[(6, .c (.int .i64 0))], [((.x 0), [.int .i64 mx0_0_a, .int .i64 mx0_1_a])], []⟩ : LSt U))))) :
    A77 N [1, 1, 1, 1, 1, 1, 0, 1, 0, 0] (head77_1 u t r d x7 x43_a mx0_0_a mx0_1_a) (AExit.then N1 (AExit.inBlock 0 (S77 N [1, 1, 1, 1, 1, 1, 1] Q))) :=
  Eq.mpr (by kernel_rfl) (h _ (reRef_eq _) _ rfl)
def Body77 (N : Nat) (u : Int) (t : Int) (r : Ref) (d : Int)  : Prop := awp cfg (know (know77 N)) (drawOk cfg (know (know77 N))) Try.f77.ntmps lv77 (cd Try.f77 []) (entry (args77.can ((u, t, ()), r, d, ())) (args77.canX ((u, t, ()), r, d, ()))) (EndsQ cfg Try.f77.ntmps Try.f77.results.toList (res77 ((u, t, ()), r, d, ())) (resX77 ((u, t, ()), r, d, ())))
abbrev HB77 : Prop := ∀ (N : Nat) (u : Int) (t : Int) (r : Ref) (d : Int) (_ : Unit), pre77 ((u, t, ()), r, d, ()) → mu77 ((u, t, ()), r, d, ()) < N + 1 → Body77 N u t r d
noncomputable def know108 (N : Nat) : List (FuncId × Fs U) := (77, fsX args77 (fun a => [pre77 a, mu77 a < N]) res77 resX77) :: (108, fsX args108 (fun a => [pre108 a, mu108 a < N]) res108 resX108) :: [(106, spec106), (105, spec105), (107, spec107), (22, spec22), (23, spec23), (24, spec24)]
def lv108 : Lives U := fun i => match i with
  | 0 => ([(0, []), (2, []), (3, []), (5, [])], [((.loc 5), []), ((.x 0), [])])
  | 1 => ([(0, []), (3, []), (5, []), (9, []), (10, [])], [((.loc 5), []), ((.loc 9), []), ((.x 0), [])])
  | 2 => ([(0, []), (3, []), (5, []), (9, []), (10, []), (20, [])], [((.loc 5), []), ((.loc 9), []), ((.x 0), [])])
  | 3 => ([(8, [])], [((.x 0), [])])
  | 4 => ([(0, []), (3, []), (9, []), (24, [])], [((.loc 9), []), ((.x 0), [])])
  | 5 => ([(8, [])], [((.x 0), [])])
  | 6 => ([(0, []), (3, []), (9, []), (30, []), (31, [])], [((.loc 9), []), ((.x 0), [])])
  | 7 => ([(0, []), (3, []), (9, []), (30, []), (31, []), (32, [])], [((.loc 9), []), ((.x 0), [])])
  | 8 => ([(0, []), (3, []), (9, []), (11, []), (30, []), (31, [])], [((.loc 9), []), ((.x 0), [])])
  | 9 => ([(0, []), (3, []), (9, []), (12, []), (30, []), (31, [])], [((.loc 9), []), ((.x 0), [])])
  | 10 => ([(0, []), (3, []), (9, []), (12, []), (30, []), (31, []), (40, [])], [((.loc 9), []), ((.x 0), [])])
  | 11 => ([(8, [])], [((.x 0), [])])
  | 12 => ([(0, []), (3, []), (9, []), (30, []), (31, [])], [((.loc 9), []), ((.x 0), [])])
  | 13 => ([(8, [])], [((.x 0), [])])
  | _ => ([], [])
noncomputable def head108_0 (u : Int) (t : Int) (r : Ref) (i : Int) (d : Int) (x31 : Int) (mx0_0 : Int) : LSt U := (⟨[(0, .ptr (.x 0) 0), (3, .c (.int .i64 d)), (9, .ptr (.loc 9) 0), (30, .c (.int .i64 (kidsR (Ref.mk (Ref.a (liftX (Ref.a (Ref.mk (Ref.a r) (Ref.kind r) (Ref.segment r) (Ref.at_ r) (Ref.data r) (Ref.kids r) (Ref.count r) (Ref.number r))) (kidX (segO (Ref.a (Ref.mk (Ref.a r) (Ref.kind r) (Ref.segment r) (Ref.at_ r) (Ref.data r) (Ref.kids r) (Ref.count r) (Ref.number r)))) (unX (Ref.mk (Ref.a r) (Ref.kind r) (Ref.segment r) (Ref.at_ r) (Ref.data r) (Ref.kids r) (Ref.count r) (Ref.number r))) i).1)) (Ref.kind (liftX (Ref.a (Ref.mk (Ref.a r) (Ref.kind r) (Ref.segment r) (Ref.at_ r) (Ref.data r) (Ref.kids r) (Ref.count r) (Ref.number r))) (kidX (segO (Ref.a (Ref.mk (Ref.a r) (Ref.kind r) (Ref.segment r) (Ref.at_ r) (Ref.data r) (Ref.kids r) (Ref.count r) (Ref.number r)))) (unX (Ref.mk (Ref.a r) (Ref.kind r) (Ref.segment r) (Ref.at_ r) (Ref.data r) (Ref.kids r) (Ref.count r) (Ref.number r))) i).1)) (Ref.segment (liftX (Ref.a (Ref.mk (Ref.a r) (Ref.kind r) (Ref.segment r) (Ref.at_ r) (Ref.data r) (Ref.kids r) (Ref.count r) (Ref.number r))) (kidX (segO (Ref.a (Ref.mk (Ref.a r) (Ref.kind r) (Ref.segment r) (Ref.at_ r) (Ref.data r) (Ref.kids r) (Ref.count r) (Ref.number r)))) (unX (Ref.mk (Ref.a r) (Ref.kind r) (Ref.segment r) (Ref.at_ r) (Ref.data r) (Ref.kids r) (Ref.count r) (Ref.number r))) i).1)) (Ref.at_ (liftX (Ref.a (Ref.mk (Ref.a r) (Ref.kind r) (Ref.segment r) (Ref.at_ r) (Ref.data r) (Ref.kids r) (Ref.count r) (Ref.number r))) (kidX (segO (Ref.a (Ref.mk (Ref.a r) (Ref.kind r) (Ref.segment r) (Ref.at_ r) (Ref.data r) (Ref.kids r) (Ref.count r) (Ref.number r)))) (unX (Ref.mk (Ref.a r) (Ref.kind r) (Ref.segment r) (Ref.at_ r) (Ref.data r) (Ref.kids r) (Ref.count r) (Ref.number r))) i).1)) (Ref.data (liftX (Ref.a (Ref.mk (Ref.a r) (Ref.kind r) (Ref.segment r) (Ref.at_ r) (Ref.data r) (Ref.kids r) (Ref.count r) (Ref.number r))) (kidX (segO (Ref.a (Ref.mk (Ref.a r) (Ref.kind r) (Ref.segment r) (Ref.at_ r) (Ref.data r) (Ref.kids r) (Ref.count r) (Ref.number r)))) (unX (Ref.mk (Ref.a r) (Ref.kind r) (Ref.segment r) (Ref.at_ r) (Ref.data r) (Ref.kids r) (Ref.count r) (Ref.number r))) i).1)) (Ref.kids (liftX (Ref.a (Ref.mk (Ref.a r) (Ref.kind r) (Ref.segment r) (Ref.at_ r) (Ref.data r) (Ref.kids r) (Ref.count r) (Ref.number r))) (kidX (segO (Ref.a (Ref.mk (Ref.a r) (Ref.kind r) (Ref.segment r) (Ref.at_ r) (Ref.data r) (Ref.kids r) (Ref.count r) (Ref.number r)))) (unX (Ref.mk (Ref.a r) (Ref.kind r) (Ref.segment r) (Ref.at_ r) (Ref.data r) (Ref.kids r) (Ref.count r) (Ref.number r))) i).1)) (Ref.count (liftX (Ref.a (Ref.mk (Ref.a r) (Ref.kind r) (Ref.segment r) (Ref.at_ r) (Ref.data r) (Ref.kids r) (Ref.count r) (Ref.number r))) (kidX (segO (Ref.a (Ref.mk (Ref.a r) (Ref.kind r) (Ref.segment r) (Ref.at_ r) (Ref.data r) (Ref.kids r) (Ref.count r) (Ref.number r)))) (unX (Ref.mk (Ref.a r) (Ref.kind r) (Ref.segment r) (Ref.at_ r) (Ref.data r) (Ref.kids r) (Ref.count r) (Ref.number r))) i).1)) (Ref.number (liftX (Ref.a (Ref.mk (Ref.a r) (Ref.kind r) (Ref.segment r) (Ref.at_ r) (Ref.data r) (Ref.kids r) (Ref.count r) (Ref.number r))) (kidX (segO (Ref.a (Ref.mk (Ref.a r) (Ref.kind r) (Ref.segment r) (Ref.at_ r) (Ref.data r) (Ref.kids r) (Ref.count r) (Ref.number r)))) (unX (Ref.mk (Ref.a r) (Ref.kind r) (Ref.segment r) (Ref.at_ r) (Ref.data r) (Ref.kids r) (Ref.count r) (Ref.number r))) i).1)))))), (31, .c (.int .i64 x31))], [((.loc 9), [.po (U := U) .arena (Ref.a (liftX (Ref.a (Ref.mk (Ref.a r) (Ref.kind r) (Ref.segment r) (Ref.at_ r) (Ref.data r) (Ref.kids r) (Ref.count r) (Ref.number r))) (kidX (segO (Ref.a (Ref.mk (Ref.a r) (Ref.kind r) (Ref.segment r) (Ref.at_ r) (Ref.data r) (Ref.kids r) (Ref.count r) (Ref.number r)))) (unX (Ref.mk (Ref.a r) (Ref.kind r) (Ref.segment r) (Ref.at_ r) (Ref.data r) (Ref.kids r) (Ref.count r) (Ref.number r))) i).1)), .int .i64 (Ref.kind (liftX (Ref.a (Ref.mk (Ref.a r) (Ref.kind r) (Ref.segment r) (Ref.at_ r) (Ref.data r) (Ref.kids r) (Ref.count r) (Ref.number r))) (kidX (segO (Ref.a (Ref.mk (Ref.a r) (Ref.kind r) (Ref.segment r) (Ref.at_ r) (Ref.data r) (Ref.kids r) (Ref.count r) (Ref.number r)))) (unX (Ref.mk (Ref.a r) (Ref.kind r) (Ref.segment r) (Ref.at_ r) (Ref.data r) (Ref.kids r) (Ref.count r) (Ref.number r))) i).1)), .int .i64 (Ref.segment (liftX (Ref.a (Ref.mk (Ref.a r) (Ref.kind r) (Ref.segment r) (Ref.at_ r) (Ref.data r) (Ref.kids r) (Ref.count r) (Ref.number r))) (kidX (segO (Ref.a (Ref.mk (Ref.a r) (Ref.kind r) (Ref.segment r) (Ref.at_ r) (Ref.data r) (Ref.kids r) (Ref.count r) (Ref.number r)))) (unX (Ref.mk (Ref.a r) (Ref.kind r) (Ref.segment r) (Ref.at_ r) (Ref.data r) (Ref.kids r) (Ref.count r) (Ref.number r))) i).1)), .int .i64 (Ref.at_ (liftX (Ref.a (Ref.mk (Ref.a r) (Ref.kind r) (Ref.segment r) (Ref.at_ r) (Ref.data r) (Ref.kids r) (Ref.count r) (Ref.number r))) (kidX (segO (Ref.a (Ref.mk (Ref.a r) (Ref.kind r) (Ref.segment r) (Ref.at_ r) (Ref.data r) (Ref.kids r) (Ref.count r) (Ref.number r)))) (unX (Ref.mk (Ref.a r) (Ref.kind r) (Ref.segment r) (Ref.at_ r) (Ref.data r) (Ref.kids r) (Ref.count r) (Ref.number r))) i).1)), .int .i64 (Ref.data (liftX (Ref.a (Ref.mk (Ref.a r) (Ref.kind r) (Ref.segment r) (Ref.at_ r) (Ref.data r) (Ref.kids r) (Ref.count r) (Ref.number r))) (kidX (segO (Ref.a (Ref.mk (Ref.a r) (Ref.kind r) (Ref.segment r) (Ref.at_ r) (Ref.data r) (Ref.kids r) (Ref.count r) (Ref.number r)))) (unX (Ref.mk (Ref.a r) (Ref.kind r) (Ref.segment r) (Ref.at_ r) (Ref.data r) (Ref.kids r) (Ref.count r) (Ref.number r))) i).1)), .int .i64 (Ref.kids (liftX (Ref.a (Ref.mk (Ref.a r) (Ref.kind r) (Ref.segment r) (Ref.at_ r) (Ref.data r) (Ref.kids r) (Ref.count r) (Ref.number r))) (kidX (segO (Ref.a (Ref.mk (Ref.a r) (Ref.kind r) (Ref.segment r) (Ref.at_ r) (Ref.data r) (Ref.kids r) (Ref.count r) (Ref.number r)))) (unX (Ref.mk (Ref.a r) (Ref.kind r) (Ref.segment r) (Ref.at_ r) (Ref.data r) (Ref.kids r) (Ref.count r) (Ref.number r))) i).1)), .int .i64 (Ref.count (liftX (Ref.a (Ref.mk (Ref.a r) (Ref.kind r) (Ref.segment r) (Ref.at_ r) (Ref.data r) (Ref.kids r) (Ref.count r) (Ref.number r))) (kidX (segO (Ref.a (Ref.mk (Ref.a r) (Ref.kind r) (Ref.segment r) (Ref.at_ r) (Ref.data r) (Ref.kids r) (Ref.count r) (Ref.number r)))) (unX (Ref.mk (Ref.a r) (Ref.kind r) (Ref.segment r) (Ref.at_ r) (Ref.data r) (Ref.kids r) (Ref.count r) (Ref.number r))) i).1)), .int .u64 (Ref.number (liftX (Ref.a (Ref.mk (Ref.a r) (Ref.kind r) (Ref.segment r) (Ref.at_ r) (Ref.data r) (Ref.kids r) (Ref.count r) (Ref.number r))) (kidX (segO (Ref.a (Ref.mk (Ref.a r) (Ref.kind r) (Ref.segment r) (Ref.at_ r) (Ref.data r) (Ref.kids r) (Ref.count r) (Ref.number r)))) (unX (Ref.mk (Ref.a r) (Ref.kind r) (Ref.segment r) (Ref.at_ r) (Ref.data r) (Ref.kids r) (Ref.count r) (Ref.number r))) i).1))]), ((.x 0), [.int .i64 mx0_0, .int .i64 t])], []⟩ : LSt U)
noncomputable abbrev A108 (N : Nat) (p : List Nat) := awp cfg (know (know108 N)) (drawOk cfg (know (know108 N))) Try.f108.ntmps lv108 (cd Try.f108 p)
noncomputable abbrev S108 (N : Nat) (p : List Nat) := seqK cfg (know (know108 N)) (drawOk cfg (know (know108 N))) Try.f108.ntmps lv108 (cd Try.f108 p)
theorem vc108 (N : Nat) (u : Int) (t : Int) (r : Ref) (i : Int) (d : Int) (Q : AExit → LSt U → Prop) (h : ∀ y_1, y_1 = (r) → ∀ y_2, y_2 = ((liftX (Ref.a y_1) (kidX (segO (Ref.a y_1)) (unX y_1) i).1)) → ((pre24 (y_1, i, ())) ∧ (((((((kidX (segO (Ref.a y_1)) (unX y_1) i).2) : Int) != 0) = true → (Q .ret (⟨[(8, .c (.int .i64 ((kidX (segO (Ref.a y_1)) (unX y_1) i).2)))], [((.x 0), [.int .i64 u, .int .i64 t])], []⟩ : LSt U))) ∧ (((((kidX (segO (Ref.a y_1)) (unX y_1) i).2) : Int) != 0) = false → (pre22 (y_1, ())) ∧ (((((Ref.kind y_1) : Int) != 9) = true → (pre77 ((u, t, ()), y_2, d, ())) ∧ (mu77 ((u, t, ()), y_2, d, ()) < N) ∧ (Q .ret (⟨[(8, .c (.int .i64 ((mean (segO (Ref.a y_2)) (Int.toNat d) (unX y_2) (t - u)).2.2)))], [((.x 0), [.int .i64 (t - (mean (segO (Ref.a y_2)) (Int.toNat d) (unX y_2) (t - u)).2.1), .int .i64 t])], []⟩ : LSt U))) ∧ ((((Ref.kind y_1) : Int) != 9) = false → (pre23 (y_2, ())) ∧ (LoopWp (A108 N [1, 1, 1, 1, 0, 1, 0, 0]) (head108_0 u t r i d 0 u) (AExit.inBlock 0 (S108 N [1, 1, 1, 1, 1] Q)))))))))) :
    A108 N [] (⟨[(0, .ptr (.x 0) 0), (1, .agg [.po (U := U) .arena (Ref.a r), .int .i64 (Ref.kind r), .int .i64 (Ref.segment r), .int .i64 (Ref.at_ r), .int .i64 (Ref.data r), .int .i64 (Ref.kids r), .int .i64 (Ref.count r), .int .u64 (Ref.number r)]), (2, .c (.int .i64 i)), (3, .c (.int .i64 d))], [((.x 0), [.int .i64 u, .int .i64 t])], []⟩ : LSt U) Q :=
  Eq.mpr (by kernel_rfl) (h _ (reRef_eq _) _ (reRef_eq _))
theorem vc108_l0 (N : Nat) (u : Int) (t : Int) (r : Ref) (i : Int) (d : Int) (x31 : Int) (mx0_0 : Int) (N0 : LSt U → Prop) (Q : AExit → LSt U → Prop) (h : ∀ y_1, y_1 = (r) → ∀ y_2, y_2 = ((liftX (Ref.a y_1) (kidX (segO (Ref.a y_1)) (unX y_1) i).1)) → ∀ y_3, y_3 = (kidV (segO (Ref.a y_2)) (Int.toNat d) (unX y_2) x31 (t - mx0_0)) → (((decide ((x31 : Int) < (kidsR y_2))) = true → ((pre108 ((mx0_0, t, ()), y_2, x31, d, ())) ∧ (mu108 ((mx0_0, t, ()), y_2, x31, d, ()) < N) ∧ ((((((y_3.2) : Int) != 0) = true → (Q .ret (⟨[(8, .c (.int .i64 (y_3.2)))], [((.x 0), [.int .i64 (t - y_3.1), .int .i64 t])], []⟩ : LSt U))) ∧ ((((y_3.2) : Int) != 0) = false → (InR ((x31 : Int) + 1)) ∧ (N0 (head108_0 u t r i d ((x31 : Int) + 1) (t - y_3.1)))))))) ∧ ((decide ((x31 : Int) < (kidsR y_2))) = false → (Q .ret (⟨[(8, .c (.int .i64 0))], [((.x 0), [.int .i64 mx0_0, .int .i64 t])], []⟩ : LSt U))))) :
    A108 N [1, 1, 1, 1, 0, 1, 0, 0] (head108_0 u t r i d x31 mx0_0) (AExit.then N0 (AExit.inBlock 0 (S108 N [1, 1, 1, 1, 1] Q))) :=
  Eq.mpr (by kernel_rfl) (h _ (reRef_eq _) _ (reRef_eq _) _ rfl)
def Body108 (N : Nat) (u : Int) (t : Int) (r : Ref) (i : Int) (d : Int)  : Prop := awp cfg (know (know108 N)) (drawOk cfg (know (know108 N))) Try.f108.ntmps lv108 (cd Try.f108 []) (entry (args108.can ((u, t, ()), r, i, d, ())) (args108.canX ((u, t, ()), r, i, d, ()))) (EndsQ cfg Try.f108.ntmps Try.f108.results.toList (res108 ((u, t, ()), r, i, d, ())) (resX108 ((u, t, ()), r, i, d, ())))
abbrev HB108 : Prop := ∀ (N : Nat) (u : Int) (t : Int) (r : Ref) (i : Int) (d : Int) (_ : Unit), pre108 ((u, t, ()), r, i, d, ()) → mu108 ((u, t, ()), r, i, d, ()) < N + 1 → Body108 N u t r i d
noncomputable def know40 : List (FuncId × Fs U) := [(45, spec45), (21, spec21), (77, spec77)]
def lv40 : Lives U := fun i => match i with
  | 0 => ([(0, []), (3, [])], [((.loc 3), [])])
  | 1 => ([(0, []), (3, [])], [((.loc 3), [])])
  | 2 => ([(3, []), (6, []), (7, [])], [((.loc 3), []), ((.loc 6), [])])
  | 3 => ([(3, []), (6, []), (7, []), (18, [])], [((.loc 3), []), ((.loc 6), [])])
  | 4 => ([(4, []), (5, [])], [])
  | 5 => ([(3, []), (6, []), (8, [])], [((.loc 3), []), ((.loc 6), []), ((.loc 23), [])])
  | 6 => ([(8, []), (9, [])], [((.loc 23), [])])
  | 7 => ([(8, []), (9, []), (30, [])], [((.loc 23), [])])
  | 8 => ([(4, []), (5, [])], [])
  | 9 => ([(4, []), (5, [])], [])
  | _ => ([], [])
noncomputable abbrev A40 (p : List Nat) := awp cfg (know know40) (drawOk cfg (know know40)) Try.f40.ntmps lv40 (cd Try.f40 p)
theorem vc40 (a : Option Arena) (x : Limits) (Q : AExit → LSt U → Prop) (h : ∀ y_1, y_1 = (x) → ∀ y_2, y_2 = ((liftX a (refAt (segO a) 0 0).1)) → ∀ y_3, y_3 = (mean (segO (Ref.a y_2)) (Int.toNat (Limits.depth (limV y_1))) (unX y_2) ((Limits.weight (limV y_1)) - 0)) → ((pre45 (y_1, ())) ∧ ((pre21 (a, ())) ∧ (((((((refAt (segO a) 0 0).2) : Int) != 0) = true → (Q .ret (⟨[(4, .c (.int .i64 0)), (5, .c (.int .i64 ((refAt (segO a) 0 0).2)))], [], []⟩ : LSt U))) ∧ (((((refAt (segO a) 0 0).2) : Int) != 0) = false → ((pre77 ((0, (Limits.weight (limV y_1)), ()), y_2, (Limits.depth (limV y_1)), ())) ∧ ((((((y_3.2.2) : Int) != 0) = true → (Q .ret (⟨[(4, .c (.int .i64 0)), (5, .c (.int .i64 (y_3.2.2)))], [], []⟩ : LSt U))) ∧ ((((y_3.2.2) : Int) != 0) = false → (Q .ret (⟨[(4, .c (.int .i64 ((Limits.weight (limV y_1)) - y_3.2.1))), (5, .c (.int .i64 0))], [], []⟩ : LSt U)))))))))))) :
    A40 [] (⟨[(0, .c (.po (U := U) .arena a)), (1, .agg [.int .i64 (Limits.depth x), .int .i64 (Limits.weight x), .int .i64 (Limits.maxD x), .int .i64 (Limits.maxOut x)])], [], []⟩ : LSt U) Q :=
  Eq.mpr (by kernel_rfl) (h _ (reLimits_eq _) _ (reRef_eq _) _ rfl)
def Body40 (a : Option Arena) (x : Limits)  : Prop := awp cfg (know (know40)) (drawOk cfg (know (know40))) Try.f40.ntmps lv40 (cd Try.f40 []) (entry (args40.can (a, x, ())) []) (EndsQ cfg Try.f40.ntmps Try.f40.results.toList (res40 (a, x, ())) [])
theorem make40 (c45 : Contract Try.prog cfg 45 spec45) (c21 : Contract Try.prog cfg 21 spec21) (c77 : Contract Try.prog cfg 77 spec77) (hb : ∀ (a : Option Arena) (x : Limits) (_ : Unit), pre40 (a, x, ()) → Body40 a x) : Contract Try.prog cfg 40 spec40 :=
  contract_flat (l := [(45, spec45), (21, spec21), (77, spec77)]) cfgOk rfl (⟨c45, c21, c77, trivial⟩) lv40 Try.func40 rfl rfl 2 (fun _ => rfl) (by decide) (fun ⟨a, x, _⟩ => hb a x ())
theorem make77_ (c106 : Contract Try.prog cfg 106 spec106) (c105 : Contract Try.prog cfg 105 spec105) (c107 : Contract Try.prog cfg 107 spec107) (c22 : Contract Try.prog cfg 22 spec22) (c23 : Contract Try.prog cfg 23 spec23) (c24 : Contract Try.prog cfg 24 spec24) (b77 : HB77) (b108 : HB108) :
    Contract Try.prog cfg 77 spec77 ∧ Contract Try.prog cfg 108 spec108 := by
  have h77 : ∃ fn, Try.prog.funcs[(77 : FuncId)]? = some fn ∧ fn.body.isSome = true ∧ (fn.name == "runtime.NumGoroutine") = false := ⟨Try.f77, Try.func77, rfl, rfl⟩
  have h108 : ∃ fn, Try.prog.funcs[(108 : FuncId)]? = some fn ∧ fn.body.isSome = true ∧ (fn.name == "runtime.NumGoroutine") = false := ⟨Try.f108, Try.func108, rfl, rfl⟩
  have key : ∀ N, Contract Try.prog cfg 77 (fsX args77 (fun a => [pre77 a, mu77 a < N]) res77 resX77) ∧ Contract Try.prog cfg 108 (fsX args108 (fun a => [pre108 a, mu108 a < N]) res108 resX108) := by
    intro N
    induction N with
    | zero => exact ⟨fsX_zero h77, fsX_zero h108⟩
    | succ N ih =>
      have kn := know_ok (l := know77 N) ⟨ih.1, ih.2, c106, c105, c107, c22, c23, c24, trivial⟩
      exact ⟨contract_fsX (Γ := know (know77 N)) cfgOk rfl kn lv77 Try.func77 rfl rfl (fun a => by show 3 ≤ _; decide) (fun ⟨⟨u, t, _⟩, r, d, _⟩ h => b77 N u t r d () h.1 h.2.1),
        contract_fsX (Γ := know (know77 N)) cfgOk rfl kn lv108 Try.func108 rfl rfl (fun a => by show 4 ≤ _; decide) (fun ⟨⟨u, t, _⟩, r, i, d, _⟩ h => b108 N u t r i d () h.1 h.2.1)⟩
  exact ⟨fsX_less h77 fun N => (key N).1, fsX_less h108 fun N => (key N).2⟩
end Go.AM.Ythokdjgpdonhgaa

namespace Go.AM.Ythokdjgpdonhgaa
open Go.AM Go.Proofs
theorem ends_eq2 {n : Nat} {rs : List ResultVar} {r r' : V U} {X X' : List (List (C U))} {e : AExit} {s : LSt U} (hr : r = r') (hX : X = X') (h : EndsQ cfg n rs r' X' e s) : EndsQ cfg n rs r X e s := by rw [hr, hX]; exact h
theorem clamp_min (n t : Int) (ht : 0 ≤ t) : (if t < (if n < 0 then 0 else n) then t else (if n < 0 then 0 else n)) = clampI n t := by
  unfold clampI
  (repeat' split) <;> omega
theorem c45 : Contract Try.prog cfg 45 spec45 := by
  refine make45 ?_
  intro x _ _
  refine vc45 _ _ ?_
  refine ends_eq (r' := .agg [.int .i64 (if (64 : Int) < (if x.depth < 0 then 0 else x.depth) then 64 else (if x.depth < 0 then 0 else x.depth)), .int .i64 (if (65536 : Int) < (if x.weight < 0 then 0 else x.weight) then 65536 else (if x.weight < 0 then 0 else x.weight)), .int .i64 (if (4096 : Int) < (if x.maxD < 0 then 0 else x.maxD) then 4096 else (if x.maxD < 0 then 0 else x.maxD)), .int .i64 (if (131072 : Int) < (if x.maxOut < 0 then 0 else x.maxOut) then 131072 else (if x.maxOut < 0 then 0 else x.maxOut))]) ?_ (by (repeat' (first | exact trivial | exact rfl | apply And.intro)))
  rw [clamp_min _ _ (by decide), clamp_min _ _ (by decide), clamp_min _ _ (by decide), clamp_min _ _ (by decide)]
  rfl
theorem c107 : Contract Try.prog cfg 107 spec107 := by
  refine make107 ?_
  intro k _ _
  refine vc107 _ _ ?_
  (simp only [vcT, vcS])
  refine ends_bool rfl ?_
  rw [Bool.eq_iff_iff]
  (simp only [vcT, vcS])
theorem c106 : Contract Try.prog cfg 106 spec106 := by
  refine make106 c22 c59 c23 c68 ?_
  intro r _ hp
  obtain ⟨ha, hx⟩ := hp
  dsimp only at ha hx
  have hd := hx.data
  have hq := hx.ptrs
  have hc := hx.count
  simp only [unX] at hd hq hc
  refine vc106 _ _ ?_
  rintro y hy
  dsimp only at hy
  replace hy := hy.symm
  subst hy
  (simp only [vcT, vcS])
  refine ⟨trivial, fun h1 => ?_, fun h1 => ⟨trivial, fun h9 => ?_, fun h9 => ?_⟩⟩
  · have e1 : lenR r = r.data := by unfold lenR; rw [if_pos h1]
    have e2 : kidsR r = r.kids := by unfold kidsR; rw [if_pos h1]
    rw [e1, e2]
    refine ⟨trivial, by ((unfold InR; omega)), trivial, by ((unfold InR; omega)), ends_int rfl ?_⟩
    show _ = ownX (unX r)
    unfold ownX
    rw [if_pos (show (unX r).kind = 1 from h1)]
    rfl
  · have e2 : kidsR r = r.count := by unfold kidsR; rw [if_neg h1]
    rw [e2, if_pos h9, if_pos h9]
    have e3 := Int.mul_nonneg hc.1 (show 0 ≤ 1 + r.data + r.kids by omega)
    have e4 := Int.mul_le_mul (Int.le_of_lt hc.2) (show 1 + r.data + r.kids ≤ 131072 by omega) (by omega) (by decide : (0 : Int) ≤ 536870912)
    refine ⟨trivial, trivial, by ((unfold InR; omega)), by ((unfold InR; omega)), by ((unfold InR; omega)), by ((unfold InR; omega)), ends_int rfl ?_⟩
    show _ = ownX (unX r)
    unfold ownX
    rw [if_neg (show ¬(unX r).kind = 1 from h1), if_pos (show (unX r).kind = 9 from h9)]
    rfl
  · have e2 : kidsR r = r.count := by unfold kidsR; rw [if_neg h1]
    rw [e2]
    refine ⟨trivial, by ((unfold InR; omega)), ends_int rfl ?_⟩
    show _ = ownX (unX r)
    unfold ownX
    rw [if_neg (show ¬(unX r).kind = 1 from h1), if_neg (show ¬(unX r).kind = 9 from h9)]
    rfl
theorem c105 : Contract Try.prog cfg 105 spec105 := by
  refine make105 ?_
  intro u t n _ hp
  obtain ⟨h0, h1, h2, h3⟩ := hp
  dsimp only at h0 h1 h2 h3
  refine vc105 _ _ _ _ ?_
  (simp only [vcT, vcS])
  refine ⟨by ((unfold InR; omega)), fun h => ?_, fun h => ⟨by ((unfold InR; omega)), ?_⟩⟩
  · refine ends_eq2 (r' := .c (.bool false)) (X' := [[.int .i64 u, .int .i64 t]]) ?_ ?_ (by (repeat' (first | exact trivial | exact rfl | apply And.intro)))
    · simp only [res105]; rw [decide_eq_false (by omega)]
    · simp only [resX105]; rw [if_neg (by omega)]
  · refine ends_eq2 (r' := .c (.bool true)) (X' := [[.int .i64 (u + n), .int .i64 t]]) ?_ ?_ (by (repeat' (first | exact trivial | exact rfl | apply And.intro)))
    · simp only [res105]; rw [decide_eq_true (by omega)]
    · simp only [resX105]; rw [if_pos (by omega)]
theorem loopM_acc (f : Int → Int → Tree × Int × Int) : ∀ (n : Nat) (i left : Int) (acc acc' : List Tree), (loopM f n i left acc).2 = (loopM f n i left acc').2
  | 0, _, _, _, _ => rfl
  | n + 1, i, left, acc, acc' => by
    simp only [loopM]
    split
    · exact loopM_acc f n _ _ _ _
    · rfl
theorem loopM_step (f : Int → Int → Tree × Int × Int) {n : Int} {i left : Int} (hi : i < n) : (loopM f (n - i).toNat i left []).2 = if (f i left).2.2 = 0 then (loopM f (n - (i + 1)).toNat (i + 1) (f i left).2.1 []).2 else (f i left).2 := by
  rw [show (n - i).toNat = (n - (i + 1)).toNat + 1 by omega]
  simp only [loopM]
  split
  · exact loopM_acc f _ _ _ _ _
  · rfl
theorem mean_null (l : List (List Int)) (d : Nat) (left : Int) : mean l d xz left = (⟨0, [], []⟩, left, 0) := by
  match d with
  | 0 => rfl
  | 1 => rfl
  | d + 2 => rfl
theorem mean_lift {a : Option Arena} {x : XRef} (h : OkX (segO a) x) (d : Nat) (left : Int) : mean (segO (liftX a x).a) d (unX (liftX a x)) left = mean (segO a) d x left := by
  rw [unX_lift h]
  by_cases h0 : x.kind = 0
  · rw [h.null h0, mean_null, mean_null]
  · rw [a_lift h0]
theorem kidV_18 {l : List (List Int)} {d : Nat} {m' : XRef → Int → Tree × Int × Int} {x : XRef} {i left : Int} (h : x.kind = 1 ∨ x.kind = 8) : (kidM l (mean l d) m' x i left).2 = kidV l d x i left := by
  unfold kidM kidV
  split
  · have h9 : ¬x.kind = 9 := by omega
    simp [h9, h]
  · rfl
theorem kidV_9 {l : List (List Int)} {d : Nat} {m : XRef → Int → Tree × Int × Int} {x : XRef} {i left : Int} (h : x.kind = 9) : (kidM l m (mean l d) x i left).2 = kidV l d x i left := by
  unfold kidM kidV
  split
  · simp [h]
  · rfl
theorem kidM_data {l : List (List Int)} {m m' : XRef → Int → Tree × Int × Int} {x : XRef} {i left : Int} (h : 2 ≤ x.kind ∧ x.kind ≤ 7 ∨ x.kind = 10) : (kidM l m m' x i left).2 = (left, 0) := by
  have hk : (kidX l x i).2 = 0 := by
    unfold kidX
    split
    · rfl
    · rw [if_neg (by omega), if_neg (by omega), if_neg (by omega)]
  unfold kidM
  rw [if_pos hk, if_neg (by omega), if_neg (by omega)]
theorem loopM_data {f : Int → Int → Tree × Int × Int} (hf : ∀ i left, (f i left).2 = (left, 0)) : ∀ (n : Nat) (i left : Int) (acc : List Tree), (loopM f n i left acc).2 = (left, 0)
  | 0, _, _, _ => rfl
  | n + 1, i, left, acc => by
    simp only [loopM, hf]
    rw [if_pos trivial]
    exact loopM_data hf n _ _ _
theorem kidV_fine {l : List (List Int)} (hl : okSeg l) {d : Nat} {x : XRef} (hx : OkX l x) {i left : Int} (h : 0 ≤ left) : 0 ≤ (kidV l d x i left).1 ∧ (kidV l d x i left).1 ≤ left := by
  unfold kidV
  split
  · split
    · exact kidsM_fine hl (mean_fine hl d) (okX_kid hl hx i) left h
    · exact mean_fine hl d _ _ (okX_kid hl hx i) h
  · exact ⟨h, Int.le_refl _⟩
theorem b77 : HB77 := by
  intro N u t r d _ hp hN
  obtain ⟨⟨ha, hx⟩, h0, h1, h2, hd0, hd⟩ := hp
  dsimp only at ha hx h0 h1 h2 hd0 hd
  have hN' : 3 * d.toNat < N + 1 := hN
  have hok : okR r := ⟨ha, hx⟩
  have hkl := kidsX_le hx
  have hop := ownX_pos hx
  refine vc77 _ _ _ _ _ _ ?_
  rintro y hy
  dsimp only at hy
  replace hy := hy.symm
  subst hy
  have hr : ∀ {e w : Int}, (mean (segO r.a) d.toNat (unX r) (t - u)).2 = (w, e) → ∀ {s : LSt U}, EndsQ cfg Try.f77.ntmps Try.f77.results.toList (.c (.int .i64 e)) [[.int .i64 (t - w), .int .i64 t]] .ret s →
      EndsQ cfg Try.f77.ntmps Try.f77.results.toList (res77 ((u, t, ()), r, d, ())) (resX77 ((u, t, ()), r, d, ())) .ret s := by
    intro e w he s hs
    refine ends_eq2 ?_ ?_ hs
    · simp only [res77]; rw [he]
    · simp only [resX77]; rw [he]
  have cut : ∀ x7 : Int, (x7 = d - 1 ∧ (r.kind ≠ 9 ∨ kidsR r ≤ 0) ∨ x7 = d - 2 ∧ r.kind = 9 ∧ 0 < kidsR r) → r.kind ≠ 0 →
      A77 N [1, 1, 1, 1] (head77_0 u t r d x7) (EndsQ cfg Try.f77.ntmps Try.f77.results.toList (res77 ((u, t, ()), r, d, ())) (resX77 ((u, t, ()), r, d, ()))) := by
    intro x7 hx7 hk0
    refine vc77_c0 _ _ _ _ _ _ _ ?_
    rintro y hy
    replace hy := hy.symm
    subst hy
    (simp only [vcT, vcS])
    have herr : ∀ e : Int, (d < 1 ∨ x7 < 0) ∨ ¬ownX (unX r) ≤ t - u → (mean (segO r.a) d.toNat (unX r) (t - u)).2 = (t - u, 3) := by
      intro e h
      by_cases h1 : 1 ≤ d.toNat
      · rw [mean_eq h1]
        unfold stepM
        rw [if_neg (show ¬(unX r).kind = 0 from hk0), if_pos]
        rcases h with (h | h) | h
        · omega
        · refine .inr (.inl ⟨?_, ?_, by omega⟩)
          · show r.kind = 9; omega
          · show 0 < r.count
            have : r.kind = 9 ∧ 0 < kidsR r := by omega
            have hk := this.2
            unfold kidsR at hk
            rw [if_neg (by omega)] at hk
            exact hk
        · exact .inr (.inr (by omega))
      · rw [show d.toNat = 0 by omega, mean_zero, if_neg (show ¬(unX r).kind = 0 from hk0)]
    refine ⟨fun _ => hok, fun _ => ⟨h0, h1, h2, by show 0 ≤ ownX (unX r); omega⟩, fun h => ?_, fun h => ?_⟩
    · refine hr (herr 0 h) ?_
      have e1 : (bif !bif decide (d < 1) then true else decide (x7 < 0) then if ownX (unX r) ≤ t - u then u + ownX (unX r) else u else u) = t - (t - u) := by
        by_cases a1 : d < 1
        · simp [a1]; omega
        · by_cases a2 : x7 < 0
          · simp [a1, a2]; omega
          · rw [if_neg (by omega)]; simp [a1, a2]; omega
      have e2 : (bif !bif decide (d < 1) then true else decide (x7 < 0) then t else t) = t := by cases (!bif decide (d < 1) then true else decide (x7 < 0)) <;> rfl
      rw [e1, e2]
      (repeat' (first | exact trivial | exact rfl | apply And.intro))
    · have e1 : (bif !bif decide (d < 1) then true else decide (x7 < 0) then if ownX (unX r) ≤ t - u then u + ownX (unX r) else u else u) = u + ownX (unX r) := by
        rw [if_pos h.2]; simp [h.1.1, h.1.2]
      have e2 : (bif !bif decide (d < 1) then true else decide (x7 < 0) then t else t) = t := by cases (!bif decide (d < 1) then true else decide (x7 < 0)) <;> rfl
      rw [e1, e2]
      have hD : 1 ≤ d.toNat := by omega
      have hM : (mean (segO r.a) d.toNat (unX r) (t - u)).2 = (loopM (kidM (segO r.a) (mean (segO r.a) (d.toNat - 1)) (mean (segO r.a) (d.toNat - 2)) (unX r)) (kidsX (unX r)).toNat 0 (t - u - ownX (unX r)) []).2 := by
        rw [mean_eq hD]
        unfold stepM
        rw [if_neg (show ¬(unX r).kind = 0 from hk0), if_neg]
        rintro (q | q | q)
        · omega
        · have q1 : r.kind = 9 := q.1
          have q2 : 0 < r.count := q.2.1
          have : kidsR r = r.count := by unfold kidsR; rw [if_neg (by omega)]
          have := q.2.2
          omega
        · omega
      refine ⟨trivial, trivial, fun hk => ?_, fun hk => ⟨trivial, ?_⟩⟩
      · refine hr (w := t - u - ownX (unX r)) (e := 0) ?_ ?_
        · rw [hM]
          exact loopM_data (fun i left => kidM_data (.inl hk)) _ _ _ _
        · rw [show t - (t - u - ownX (unX r)) = u + ownX (unX r) by omega]
          (repeat' (first | exact trivial | exact rfl | apply And.intro))
      · by_cases h10 : r.kind = 10
        · have hc0 : kidsR r = 0 := by
            unfold kidsR
            rw [if_neg (by omega)]
            exact hx.zero (.inr h10)
          refine loop_rule (ι := Int) (fun i => head77_1 u t r d x7 i (u + ownX (unX r)) t) (fun i => i = 0) (fun _ => 0) 0 rfl rfl ?_
          rintro i rfl
          refine vc77_l1 _ _ _ _ _ _ _ _ _ _ _ ?_
          rintro y1 hy1 y2 hy2
          replace hy1 := hy1.symm
          subst hy1
          (simp only [vcT, vcS])
          refine ⟨fun hi => by omega, fun _ => ?_⟩
          refine hr (w := t - u - ownX (unX r)) (e := 0) ?_ ?_
          · rw [hM, ← kidsR_un, hc0]; rfl
          · rw [show t - (t - u - ownX (unX r)) = u + ownX (unX r) by omega]
            (repeat' (first | exact trivial | exact rfl | apply And.intro))
        · have hk9 : r.kind = 1 ∨ r.kind = 8 ∨ r.kind = 9 := by
            have := hx.kind
            simp only [unX] at this
            omega
          have hf : ∀ i left : Int, i < kidsR r → (kidM (segO r.a) (mean (segO r.a) (d.toNat - 1)) (mean (segO r.a) (d.toNat - 2)) (unX r) i left).2 = kidV (segO r.a) x7.toNat (unX r) i left ∨ i < 0 := by
            intro i left hi
            by_cases hi0 : i < 0
            · exact .inr hi0
            left
            by_cases h9 : r.kind = 9
            · rw [show x7.toNat = d.toNat - 2 by omega]; exact kidV_9 h9
            · rw [show x7.toNat = d.toNat - 1 by omega]; exact kidV_18 (by show r.kind = 1 ∨ r.kind = 8; omega)
          refine loop_rule (ι := Int × Int) (fun p => head77_1 u t r d x7 p.1 p.2 t) (fun p => 0 ≤ p.1 ∧ p.1 ≤ kidsR r ∧ 0 ≤ p.2 ∧ p.2 ≤ t ∧ (loopM (kidM (segO r.a) (mean (segO r.a) (d.toNat - 1)) (mean (segO r.a) (d.toNat - 2)) (unX r)) (kidsR r - p.1).toNat p.1 (t - p.2) []).2 = (mean (segO r.a) d.toNat (unX r) (t - u)).2) (fun p => (kidsR r - p.1).toNat) (0, u + ownX (unX r)) rfl ⟨by simp, by rw [kidsR_un]; exact hkl.1, by dsimp only; omega, by dsimp only; omega, ?_⟩ ?_
          · dsimp only
            rw [hM, kidsR_un, Int.sub_zero, show t - (u + ownX (unX r)) = t - u - ownX (unX r) by omega]
          rintro ⟨i, w⟩ ⟨i0, i1, w0, w1, hL⟩
          dsimp only at i0 i1 w0 w1 hL
          refine vc77_l1 _ _ _ _ _ _ _ _ _ _ _ ?_
          rintro y1 hy1 y2 hy2
          replace hy1 := hy1.symm
          subst hy1
          (simp only [vcT, vcS])
          refine ⟨fun hi => ⟨⟨hok, w0, w1, h2, by dsimp only; omega, by dsimp only; omega, hk9⟩, ?_, fun he => ?_, fun he => ⟨?_, (i + 1, t - y2.1), rfl, ?_, by dsimp only; omega⟩⟩, fun hi => ?_⟩
          · show 3 * x7.toNat + (if r.kind = 9 then 2 else 1) < N
            split <;> omega
          · rw [loopM_step _ hi, (hf i (t - w) hi).resolve_right (by omega), ← hy2, if_neg he] at hL
            exact hr (w := y2.1) (e := y2.2) hL.symm (by (repeat' (first | exact trivial | exact rfl | apply And.intro)))
          · have := hx.ptrs
            have := hx.count
            have : kidsR r < 536870912 := by unfold kidsR; split; exact Int.lt_trans hx.ptrs.2 (by decide); exact hx.count.2
            ((unfold InR; omega))
          · have hfi := kidV_fine ha hx (d := x7.toNat) (i := i) (left := t - w) (by omega)
            rw [← hy2] at hfi
            rw [loopM_step _ hi, (hf i (t - w) hi).resolve_right (by omega), ← hy2, if_pos he] at hL
            refine ⟨by dsimp only; omega, by dsimp only; omega, by dsimp only; omega, by dsimp only; omega, ?_⟩
            dsimp only
            rw [show t - (t - y2.1) = y2.1 by omega, ← hL]
          · rw [show (kidsR r - i).toNat = 0 by omega] at hL
            refine hr (w := t - w) (e := 0) hL.symm ?_
            rw [show t - (t - w) = w by omega]
            (repeat' (first | exact trivial | exact rfl | apply And.intro))
  (simp only [vcT, vcS])
  refine ⟨trivial, fun hk => ?_, fun hk => ⟨?_, trivial, fun _ => trivial, fun h9 => ⟨?_, ?_⟩, fun h9 => ?_⟩⟩
  · refine hr (w := t - u) (e := 0) ?_ ?_
    · rw [show unX r = xz from hx.null hk, mean_null]
    · rw [show t - (t - u) = u by omega]
      (repeat' (first | exact trivial | exact rfl | apply And.intro))
  · ((unfold InR; omega))
  · ((unfold InR; omega))
  · exact cut _ (.inr ⟨by omega, h9.1, h9.2⟩) hk
  · exact cut _ (.inl ⟨rfl, by omega⟩) hk
theorem kidsM_2 {l : List (List Int)} {d : Nat} {x : XRef} (hk : x.kind = 1) (left : Int) : (kidsM l (mean l d) x left).2 = (loopM (kidM l (mean l d) (fun _ left => (Tree.nil, left, 3)) x) x.ptrs.toNat 0 left []).2 := by
  unfold kidsM
  have : (fun j left => if (kidX l x j).2 = 0 then mean l d (kidX l x j).1 left else (Tree.nil, left, (kidX l x j).2)) = kidM l (mean l d) (fun _ left => (Tree.nil, left, 3)) x := by
    funext j left
    unfold kidM
    split
    · rw [if_neg (by omega), if_pos (.inl hk)]
    · rfl
  rw [this]
theorem b108 : HB108 := by
  intro N u t r i d _ hp hN
  obtain ⟨⟨ha, hx⟩, h0, h1, h2, hd0, hd, hk⟩ := hp
  dsimp only at ha hx h0 h1 h2 hd0 hd hk
  have hN' : 3 * d.toNat + (if r.kind = 9 then 2 else 1) < N + 1 := hN
  have hok : okR r := ⟨ha, hx⟩
  have hkx := okX_kid ha hx i
  refine vc108 _ _ _ _ _ _ _ ?_
  rintro y hy z hz
  dsimp only at hy hz
  replace hy := hy.symm
  subst hy
  have ea : (kidX (segO r.a) (unX r) i).1 = (kidX (segO r.a) (unX r) i).1 := rfl
  have hokz : okR z := by rw [hz]; exact okR_lift ha hkx
  have hr : ∀ {e w : Int}, kidV (segO r.a) d.toNat (unX r) i (t - u) = (w, e) → ∀ {s : LSt U}, EndsQ cfg Try.f108.ntmps Try.f108.results.toList (.c (.int .i64 e)) [[.int .i64 (t - w), .int .i64 t]] .ret s →
      EndsQ cfg Try.f108.ntmps Try.f108.results.toList (res108 ((u, t, ()), r, i, d, ())) (resX108 ((u, t, ()), r, i, d, ())) .ret s := by
    intro e w he s hs
    refine ends_eq2 ?_ ?_ hs
    · simp only [res108]; rw [he]
    · simp only [resX108]; rw [he]
  (simp only [vcT, vcS])
  refine ⟨hok, fun he => ?_, fun he => ⟨trivial, fun k9 => ⟨⟨hokz, h0, h1, h2, hd0, hd⟩, ?_, ?_⟩, fun k9 => ⟨trivial, ?_⟩⟩⟩
  · refine hr (w := t - u) (e := (kidX (segO r.a) (unX r) i).2) (by unfold kidV; rw [if_neg he]) ?_
    rw [show t - (t - u) = u by omega]
    (repeat' (first | exact trivial | exact rfl | apply And.intro))
  · show 3 * d.toNat < N
    rw [if_neg k9] at hN'
    omega
  · have hm : mean (segO z.a) d.toNat (unX z) (t - u) = mean (segO r.a) d.toNat (kidX (segO r.a) (unX r) i).1 (t - u) := by rw [hz]; exact mean_lift hkx _ _
    rw [hm]
    refine hr (w := (mean (segO r.a) d.toNat (kidX (segO r.a) (unX r) i).1 (t - u)).2.1) (e := (mean (segO r.a) d.toNat (kidX (segO r.a) (unX r) i).1 (t - u)).2.2) (by unfold kidV; rw [if_pos he, if_neg (show ¬(unX r).kind = 9 from k9)]) ?_
    (repeat' (first | exact trivial | exact rfl | apply And.intro))
  · rw [if_pos k9] at hN'
    by_cases hki : i < 0 ∨ kidsX (unX r) ≤ i
    · have hz0 : (kidX (segO r.a) (unX r) i) = (xz, 0) := by unfold kidX; rw [if_pos hki]
      have hzz : z = refZ := by rw [hz, hz0]; rfl
      refine loop_rule (ι := Int) (fun j => head108_0 u t r i d j u) (fun j => j = 0) (fun _ => 0) 0 rfl rfl ?_
      rintro j rfl
      refine vc108_l0 _ _ _ _ _ _ _ _ _ _ ?_
      rintro y1 hy1 y2 hy2 y3 hy3
      replace hy1 := hy1.symm
      subst hy1
      have e2 : y2 = refZ := by rw [hy2, ← hz, hzz]
      rw [e2]
      (simp only [vcT, vcS])
      refine ⟨fun hi => by have : kidsR refZ = 0 := rfl; omega, fun _ => ?_⟩
      refine hr (w := t - u) (e := 0) ?_ ?_
      · unfold kidV
        rw [if_pos he, if_pos (show (unX r).kind = 9 from k9), hz0]
        rfl
      · rw [show t - (t - u) = u by omega]
        (repeat' (first | exact trivial | exact rfl | apply And.intro))
    · have hzx : (kidX (segO r.a) (unX r) i).1.kind = 1 := by
        unfold kidX
        rw [if_neg hki, if_neg (show ¬(unX r).kind = 1 by show ¬r.kind = 1; omega), if_neg (show ¬(unX r).kind = 8 by show ¬r.kind = 8; omega), if_pos (show (unX r).kind = 9 from k9)]
      have hza : z.a = r.a := by rw [hz]; exact a_lift (x := (kidX (segO r.a) (unX r) i).1) (by rw [hzx]; decide)
      have hzu : unX z = (kidX (segO r.a) (unX r) i).1 := by rw [hz]; exact unX_lift hkx
      have hzk : z.kind = 1 := (congrArg XRef.kind hzu).trans hzx
      have hkz : kidsR z = (kidX (segO r.a) (unX r) i).1.ptrs := by rw [kidsR_un, hzu]; unfold kidsX; rw [if_pos hzx]
      have hpz := hkx.ptrs
      have hV : kidV (segO r.a) d.toNat (unX r) i (t - u) = (loopM (kidM (segO r.a) (mean (segO r.a) d.toNat) (fun _ left => (Tree.nil, left, 3)) (unX z)) (kidsR z).toNat 0 (t - u) []).2 := by
        unfold kidV
        rw [if_pos he, if_pos (show (unX r).kind = 9 from k9), kidsM_2 hzx, hzu, hkz]
      refine loop_rule (ι := Int × Int) (fun p => head108_0 u t r i d p.1 p.2) (fun p => 0 ≤ p.1 ∧ p.1 ≤ kidsR z ∧ 0 ≤ p.2 ∧ p.2 ≤ t ∧ (loopM (kidM (segO r.a) (mean (segO r.a) d.toNat) (fun _ left => (Tree.nil, left, 3)) (unX z)) (kidsR z - p.1).toNat p.1 (t - p.2) []).2 = kidV (segO r.a) d.toNat (unX r) i (t - u)) (fun p => (kidsR z - p.1).toNat) (0, u) rfl ⟨by simp, by dsimp only; omega, by dsimp only; omega, by dsimp only; omega, ?_⟩ ?_
      · dsimp only
        rw [hV, Int.sub_zero]
      rintro ⟨j, w⟩ ⟨i0, i1, w0, w1, hL⟩
      dsimp only at i0 i1 w0 w1 hL
      refine vc108_l0 _ _ _ _ _ _ _ _ _ _ ?_
      rintro y1 hy1 y2 hy2 y3 hy3
      replace hy1 := hy1.symm
      subst hy1
      rw [← hz] at hy2
      subst hy2
      (simp only [vcT, vcS])
      rw [hza] at hy3
      have hf := kidV_18 (l := segO r.a) (d := d.toNat) (m' := fun _ left => (Tree.nil, left, 3)) (x := unX y2) (i := j) (left := t - w) (.inl hzk)
      refine ⟨fun hi => ⟨⟨hokz, w0, w1, h2, hd0, hd, .inl hzk⟩, ?_, fun hn => ?_, fun hn => ⟨by ((unfold InR; omega)), (j + 1, t - y3.1), rfl, ?_, by dsimp only; omega⟩⟩, fun hi => ?_⟩
      · show 3 * d.toNat + (if y2.kind = 9 then 2 else 1) < N
        rw [if_neg (by omega)]
        omega
      · rw [loopM_step _ hi, hf, ← hy3, if_neg hn] at hL
        exact hr (w := y3.1) (e := y3.2) hL.symm (by (repeat' (first | exact trivial | exact rfl | apply And.intro)))
      · have hfi := kidV_fine ha (x := unX y2) (by rw [hzu]; exact hkx) (d := d.toNat) (i := j) (left := t - w) (by omega)
        rw [← hy3] at hfi
        rw [loopM_step _ hi, hf, ← hy3, if_pos hn] at hL
        refine ⟨by dsimp only; omega, by dsimp only; omega, by dsimp only; omega, by dsimp only; omega, ?_⟩
        dsimp only
        rw [show t - (t - y3.1) = y3.1 by omega, ← hL]
      · rw [show (kidsR y2 - j).toNat = 0 by omega] at hL
        refine hr (w := t - w) (e := 0) hL.symm ?_
        rw [show t - (t - w) = w by omega]
        (repeat' (first | exact trivial | exact rfl | apply And.intro))
theorem c77_ : Contract Try.prog cfg 77 spec77 ∧ Contract Try.prog cfg 108 spec108 := make77_ c106 c105 c107 c22 c23 c24 b77 b108
theorem c77 : Contract Try.prog cfg 77 spec77 := c77_.1
theorem limV_ok (x : Limits) : 0 ≤ (limV x).depth ∧ (limV x).depth ≤ 64 ∧ 0 ≤ (limV x).weight ∧ (limV x).weight ≤ 65536 := by
  show 0 ≤ clampI x.depth 64 ∧ clampI x.depth 64 ≤ 64 ∧ 0 ≤ clampI x.weight 65536 ∧ clampI x.weight 65536 ≤ 65536
  unfold clampI
  refine ⟨?_, ?_, ?_, ?_⟩ <;> (repeat' split) <;> omega
theorem c40 : Contract Try.prog cfg 40 spec40 := by
  refine make40 c45 c21 c77 ?_
  intro a x _ ha
  simp only [pre40] at ha
  refine vc40 _ _ _ ?_
  rintro y hy z hz m hm
  dsimp only at hy hz hm
  replace hy := hy.symm
  subst hy
  have hx := okX_at ha 0 0
  have hl := limV_ok x
  have hm' : m = mean (segO a) (limV x).depth.toNat (refAt (segO a) 0 0).1 (limV x).weight := by rw [hm, hz, Int.sub_zero]; exact mean_lift hx _ _
  clear hm
  (simp only [vcT, vcS])
  refine ⟨trivial, ha, fun h => ?_, fun h => ⟨⟨by rw [hz]; exact okR_lift ha hx, ?_⟩, fun h2 => ?_, fun h2 => ?_⟩⟩
  · refine ends_eq (r' := .tup [(false, [.int .i64 0]), (false, [.int .i64 (refAt (segO a) 0 0).2])]) ?_ (by (repeat' (first | exact trivial | exact rfl | apply And.intro)))
    simp only [res40]
    rw [show unfV (segO a) x = (Tree.nil, 0, (refAt (segO a) 0 0).2) by unfold unfV; rw [if_neg h]]
  · dsimp only
    omega
  · refine ends_eq (r' := .tup [(false, [.int .i64 0]), (false, [.int .i64 m.2.2])]) ?_ (by (repeat' (first | exact trivial | exact rfl | apply And.intro)))
    simp only [res40]
    rw [show unfV (segO a) x = (Tree.nil, 0, m.2.2) by unfold unfV; rw [if_pos h, ← hm', if_neg h2]]
  · refine ends_eq (r' := .tup [(false, [.int .i64 ((limV x).weight - m.2.1)]), (false, [.int .i64 0])]) ?_ (by (repeat' (first | exact trivial | exact rfl | apply And.intro)))
    simp only [res40]
    rw [show unfV (segO a) x = (m.1, (limV x).weight - m.2.1, 0) by unfold unfV; rw [if_pos h, ← hm', if_pos h2]]
end Go.AM.Ythokdjgpdonhgaa
