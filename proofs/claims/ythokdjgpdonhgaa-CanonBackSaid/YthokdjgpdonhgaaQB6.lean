import Derived.Test.YthokdjgpdonhgaaBmZ
import Derived.Test.YthokdjgpdonhgaaChecked
import Derived.Test.YthokdjgpdonhgaaQD2
set_option linter.unusedSimpArgs false
set_option linter.unusedVariables false
namespace Go.AM.Ythokdjgpdonhgaa
open Go.AM Go.Proofs
def el : Ty → TypeId
  | .u64 => 26
  | .u8 => 5
  | .int => 3
  | .words => 22
  | .tree => 53
  | .ptr => 89
  | .loc => 91
  | .arena => 84
  | .ref => 31
  | .xref => 42
  | .limits => 60
def tb : Tables U :=
  { el := el
    sl := [(22, .u64), (29, .words), (39, .int), (51, .tree)]
    var := [(2, false, [.int .i64 0]),
      (3, false, [.int .i64 0]),
      (4, false, [.bool false]),
      (5, false, [.int .u8 0]),
      (6, false, [.int .u8 0]),
      (7, true, [.int .i64 0, .int .i64 0, .bool false, .int .u8 0]),
      (8, true, [.int .i64 0, .int .i64 0, .bool false, .int .u8 0]),
      (12, false, [.int .u64 0]),
      (15, false, [.nilp]),
      (16, false, [.nilp]),
      (17, false, [.nilp]),
      (18, true, [.nilp]),
      (19, true, [.nilp]),
      (21, false, [.int .i32 0]),
      (22, false, [.nils]),
      (26, false, [.int .u64 0]),
      (27, false, [.nilp]),
      (29, false, [.nils]),
      (30, true, [.nilp, .int .i64 0, .int .i64 0, .int .i64 0, .int .i64 0, .int .i64 0, .int .i64 0, .int .u64 0]),
      (31, true, [.nilp, .int .i64 0, .int .i64 0, .int .i64 0, .int .i64 0, .int .i64 0, .int .i64 0, .int .u64 0]),
      (32, false, [.int .i64 0]),
      (39, false, [.nils]),
      (41, true, [.int .i64 0, .int .i64 0, .int .i64 0, .int .i64 0, .int .i64 0, .int .i64 0, .int .u64 0]),
      (42, true, [.int .i64 0, .int .i64 0, .int .i64 0, .int .i64 0, .int .i64 0, .int .i64 0, .int .u64 0]),
      (51, false, [.nils]),
      (52, true, [.int .i64 0, .nils, .nils]),
      (53, true, [.int .i64 0, .nils, .nils]),
      (59, true, [.int .i64 0, .int .i64 0, .int .i64 0, .int .i64 0]),
      (60, true, [.int .i64 0, .int .i64 0, .int .i64 0, .int .i64 0]),
      (70, false, [.int .u32 0]),
      (71, false, [.int .u64 0]),
      (83, true, [.nils, .int .i64 0, .int .i64 0, .int .i64 0]),
      (84, true, [.nils, .int .i64 0, .int .i64 0, .int .i64 0]),
      (88, true, [.int .i64 0, .int .i64 0, .int .i64 0, .int .i64 0, .int .i64 0, .int .i64 0, .int .i64 0, .bool false]),
      (89, true, [.int .i64 0, .int .i64 0, .int .i64 0, .int .i64 0, .int .i64 0, .int .i64 0, .int .i64 0, .bool false]),
      (90, true, [.int .i64 0, .int .i64 0, .int .i64 0, .int .i64 0, .int .i64 0, .int .i64 0, .int .i64 0, .bool false, .int .i64 0, .int .i64 0]),
      (91, true, [.int .i64 0, .int .i64 0, .int .i64 0, .int .i64 0, .int .i64 0, .int .i64 0, .int .i64 0, .bool false, .int .i64 0, .int .i64 0]),
      (94, true, [.int .i64 0, .int .i64 0, .int .i64 0, .int .i64 0, .int .i64 0, .int .i64 0, .int .i64 0, .bool false]),
      (95, true, [.int .i64 0, .int .i64 0, .int .i64 0, .int .i64 0, .int .i64 0, .int .i64 0, .int .i64 0, .bool false, .int .i64 0, .int .i64 0]),
      (96, true, [.int .i64 0, .int .i64 0, .int .i64 0, .int .i64 0, .int .i64 0, .int .i64 0, .int .i64 0, .bool false, .int .i64 0, .int .i64 0]),
      (105, false, [.nilp]),
      (106, true, [.nils]),
      (107, true, [.nils]),
      (110, false, [.nilp]),
      (111, true, [.int .i64 0, .int .i64 0]),
      (112, true, [.int .i64 0, .int .i64 0]),
      (138, true, [.int .i64 0, .int .i64 0, .int .i64 0, .int .i64 0, .int .i64 0, .int .i64 0]),
      (142, true, [.int .i64 0, .int .i64 0, .int .i64 0, .int .i64 0, .int .i64 0, .int .i64 0, .int .i64 0]),
      (149, false, [.int .u8 0]),
      (150, false, [.int .u8 0]),
      (152, false, [.nilp]),
      (153, false, [.int .i32 0]),
      (154, false, [.int .i32 0])]
    fld := [(7, 0, 0, 2), (7, 1, 1, 3), (7, 2, 2, 4), (7, 3, 3, 6), (8, 0, 0, 2), (8, 1, 1, 3), (8, 2, 2, 4), (8, 3, 3, 6), (18, 0, 0, 17), (19, 0, 0, 17), (30, 0, 0, 27), (30, 1, 1, 3), (30, 2, 2, 3), (30, 3, 3, 3), (30, 4, 4, 3), (30, 5, 5, 3), (30, 6, 6, 3), (30, 7, 7, 26), (31, 0, 0, 27), (31, 1, 1, 3), (31, 2, 2, 3), (31, 3, 3, 3), (31, 4, 4, 3), (31, 5, 5, 3), (31, 6, 6, 3), (31, 7, 7, 26), (41, 0, 0, 3), (41, 1, 1, 3), (41, 2, 2, 3), (41, 3, 3, 3), (41, 4, 4, 3), (41, 5, 5, 3), (41, 6, 6, 26), (42, 0, 0, 3), (42, 1, 1, 3), (42, 2, 2, 3), (42, 3, 3, 3), (42, 4, 4, 3), (42, 5, 5, 3), (42, 6, 6, 26), (52, 0, 0, 3), (52, 1, 1, 22), (52, 2, 2, 51), (53, 0, 0, 3), (53, 1, 1, 22), (53, 2, 2, 51), (59, 0, 0, 3), (59, 1, 1, 3), (59, 2, 2, 3), (59, 3, 3, 3), (60, 0, 0, 3), (60, 1, 1, 3), (60, 2, 2, 3), (60, 3, 3, 3), (83, 0, 0, 29), (83, 1, 1, 3), (83, 2, 2, 3), (83, 3, 3, 3), (84, 0, 0, 29), (84, 1, 1, 3), (84, 2, 2, 3), (84, 3, 3, 3), (88, 0, 0, 3), (88, 1, 1, 3), (88, 2, 2, 3), (88, 3, 3, 3), (88, 4, 4, 3), (88, 5, 5, 3), (88, 6, 6, 3), (88, 7, 7, 4), (89, 0, 0, 3), (89, 1, 1, 3), (89, 2, 2, 3), (89, 3, 3, 3), (89, 4, 4, 3), (89, 5, 5, 3), (89, 6, 6, 3), (89, 7, 7, 4), (90, 0, 0, 89), (90, 1, 8, 3), (90, 2, 9, 3), (91, 0, 0, 89), (91, 1, 8, 3), (91, 2, 9, 3), (94, 0, 0, 3), (94, 1, 1, 3), (94, 2, 2, 3), (94, 3, 3, 3), (94, 4, 4, 3), (94, 5, 5, 3), (94, 6, 6, 3), (94, 7, 7, 4), (95, 0, 0, 94), (95, 1, 8, 3), (95, 2, 9, 3), (96, 0, 0, 94), (96, 1, 8, 3), (96, 2, 9, 3), (106, 0, 0, 22), (107, 0, 0, 22), (111, 0, 0, 3), (111, 1, 1, 3), (112, 0, 0, 3), (112, 1, 1, 3)]
    arr := [(138, 6, 3), (142, 7, 3)]
    eqs := [7, 8, 41, 42, 59, 60, 88, 89, 94, 111, 112] }
def cfg : Cfg U := tb.cfg K
theorem varOk : tb.var.all (varB Try.prog) = true := by kernel_rfl
theorem slOk : tb.sl.all (slB Try.prog tb.el) = true := by kernel_rfl
theorem fldOk : tb.fld.all (fldB Try.prog) = true := by kernel_rfl
theorem arrOk : tb.arr.all (arrB Try.prog) = true := by kernel_rfl
theorem elOk : ∀ t, elB Try.prog K tb t = true := by
  intro t
  cases t
  · kernel_rfl
  · kernel_rfl
  · kernel_rfl
  · kernel_rfl
  · kernel_rfl
  · kernel_rfl
  · kernel_rfl
  · kernel_rfl
  · kernel_rfl
  · kernel_rfl
  · kernel_rfl
theorem cfgOk : CfgOk Try.prog cfg := tables_ok K_ok varOk slOk fldOk arrOk elOk (by kernel_rfl) (by kernel_rfl)
end Go.AM.Ythokdjgpdonhgaa

namespace Go.AM.Ythokdjgpdonhgaa
open Go.AM Go.Proofs
def args56 : ArgL (Int × Unit) := (.cons (aInt .i64) .nil)
def pre56 (a : Int × Unit) : Prop := True
noncomputable def res56 (a : Int × Unit) : V U := .c (.int .i64 (wd a.1))
noncomputable def spec56 : Fs U := fs args56 (fun a => [pre56 a]) res56
def args110 : ArgL (Int × Unit) := (.cons (aInt .i64) .nil)
def pre110 (a : Int × Unit) : Prop := True
noncomputable def res110 (a : Int × Unit) : V U := .tup [(false, [.int .i64 (if wd a.1 < 0 then 0 else wd a.1)]), (false, [.bool (decide (0 ≤ wd a.1))])]
noncomputable def spec110 : Fs U := fs args110 (fun a => [pre110 a]) res110
def args83 : ArgL (Int × Unit) := (.cons (aInt .i64) .nil)
def pre83 (a : Int × Unit) : Prop := True
noncomputable def res83 (a : Int × Unit) : V U := .tup [(false, [.int .i64 (if wd a.1 < 0 then 0 else wd a.1)]), (false, [.bool (decide (0 ≤ wd a.1))])]
noncomputable def spec83 : Fs U := fs args83 (fun a => [pre83 a]) res83
def args84 : ArgL (List Int × Int × Int × Unit) := (.cons (aSl .u64) (.cons (aInt .i64) (.cons (aInt .i64) .nil)))
def pre84 (a : List Int × Int × Int × Unit) : Prop := okW a.1
noncomputable def res84 (a : List Int × Int × Int × Unit) : V U := .c (.int .u64 (getW a.1 a.2.1 a.2.2.1))
noncomputable def spec84 : Fs U := fs args84 (fun a => [pre84 a]) res84
def args86 : ArgL (Int × Unit) := (.cons (aInt .u64) .nil)
def pre86 (a : Int × Unit) : Prop := (0 ≤ a.1 ∧ a.1 < 18446744073709551616)
noncomputable def res86 (a : Int × Unit) : V U := .agg [.int .i64 (Ptr.kind (decP a.1)), .int .i64 (Ptr.off (decP a.1)), .int .i64 (Ptr.data (decP a.1)), .int .i64 (Ptr.ptrs (decP a.1)), .int .i64 (Ptr.code (decP a.1)), .int .i64 (Ptr.count (decP a.1)), .int .i64 (Ptr.segment (decP a.1)), .bool (Ptr.double (decP a.1))]
noncomputable def spec86 : Fs U := fs args86 (fun a => [pre86 a]) res86
def args124 : ArgL (Int × Int × Unit) := (.cons (aInt .i64) (.cons (aInt .i64) .nil))
def pre124 (a : Int × Int × Unit) : Prop := True
noncomputable def res124 (a : Int × Int × Unit) : V U := .c (.bool (decide (0 ≤ a.1 ∧ a.1 ≤ a.2.1)))
noncomputable def spec124 : Fs U := fs args124 (fun a => [pre124 a]) res124
def args122 : ArgL (Ptr × Unit) := (.cons (aEl .ptr) .nil)
def pre122 (a : Ptr × Unit) : Prop := OkP a.1
noncomputable def res122 (a : Ptr × Unit) : V U := .tup [(false, [.int .i64 (if wordsP a.1 < 0 then 0 else wordsP a.1)]), (false, [.bool (decide (0 ≤ wordsP a.1))])]
noncomputable def spec122 : Fs U := fs args122 (fun a => [pre122 a]) res122
noncomputable def know56 : List (FuncId × Fs U) := []
def lv56 : Lives U := fun i => match i with
  | 0 => ([(0, [])], [])
  | 1 => ([(3, [])], [])
  | 2 => ([(3, []), (4, [])], [])
  | 3 => ([(2, [])], [])
  | 4 => ([(3, []), (6, [])], [])
  | 5 => ([(2, [])], [])
  | 6 => ([(3, []), (8, [])], [])
  | 7 => ([(2, [])], [])
  | 8 => ([(3, []), (10, [])], [])
  | 9 => ([(2, [])], [])
  | 10 => ([(3, []), (12, [])], [])
  | 11 => ([(2, [])], [])
  | 12 => ([(14, [])], [])
  | 13 => ([(2, [])], [])
  | 14 => ([(2, [])], [])
  | _ => ([], [])
noncomputable abbrev A56 (p : List Nat) := awp cfg (know know56) (drawOk cfg (know know56)) Try.f56.ntmps lv56 (cd Try.f56 p)
theorem vc56 (c : Int) (Q : AExit → LSt U → Prop) (h : ((((((c : Int) == 0) = true → (Q .ret (⟨[(2, .c (.int .i64 0))], [], []⟩ : LSt U))) ∧ (((c : Int) == 0) = false → ((((c : Int) == 1) = true → (Q .ret (⟨[(2, .c (.int .i64 1))], [], []⟩ : LSt U))) ∧ (((c : Int) == 1) = false → ((((c : Int) == 2) = true → (Q .ret (⟨[(2, .c (.int .i64 8))], [], []⟩ : LSt U))) ∧ (((c : Int) == 2) = false → ((((c : Int) == 3) = true → (Q .ret (⟨[(2, .c (.int .i64 16))], [], []⟩ : LSt U))) ∧ (((c : Int) == 3) = false → ((((c : Int) == 4) = true → (Q .ret (⟨[(2, .c (.int .i64 32))], [], []⟩ : LSt U))) ∧ (((c : Int) == 4) = false → ((((c : Int) == 5) = true → (Q .ret (⟨[(2, .c (.int .i64 64))], [], []⟩ : LSt U))) ∧ (((c : Int) == 5) = false → (Q .ret (⟨[(2, .c (.int .i64 (-1)))], [], []⟩ : LSt U))))))))))))))))) :
    A56 [] (⟨[(0, .c (.int .i64 c))], [], []⟩ : LSt U) Q :=
  Eq.mpr (by kernel_rfl) h
def Body56 (c : Int)  : Prop := awp cfg (know (know56)) (drawOk cfg (know (know56))) Try.f56.ntmps lv56 (cd Try.f56 []) (entry (args56.can (c, ())) []) (EndsQ cfg Try.f56.ntmps Try.f56.results.toList (res56 (c, ())) [])
theorem make56 (hb : ∀ (c : Int) (_ : Unit), pre56 (c, ()) → Body56 c) : Contract Try.prog cfg 56 spec56 :=
  contract_flat (l := []) cfgOk rfl (trivial) lv56 Try.func56 rfl rfl 1 (fun _ => rfl) (by decide) (fun ⟨c, _⟩ => hb c ())
noncomputable def know110 : List (FuncId × Fs U) := []
def lv110 : Lives U := fun i => match i with
  | 0 => ([(0, [])], [])
  | 1 => ([(0, []), (4, [])], [((.loc 4), [])])
  | 2 => ([(0, []), (4, []), (11, [])], [((.loc 4), [])])
  | 3 => ([(2, []), (3, [])], [])
  | 4 => ([(2, []), (3, [])], [])
  | _ => ([], [])
noncomputable abbrev A110 (p : List Nat) := awp cfg (know know110) (drawOk cfg (know know110)) Try.f110.ntmps lv110 (cd Try.f110 p)
theorem vc110 (c : Int) (Q : AExit → LSt U → Prop) (h : (((Tr ((!(decide ((c : Int) < 0))) = true)) ∧ (((decide ((c : Int) < 0)) = false → (!(decide ((c : Int) < 0))) = true)) ∧ (((bif (decide ((c : Int) < 0)) then true else (decide ((6 : Int) ≤ c))) = true → (Q .ret (⟨[(2, .c (.int .i64 0)), (3, .c (.bool false))], [], []⟩ : LSt U))) ∧ ((bif (decide ((c : Int) < 0)) then true else (decide ((6 : Int) ≤ c))) = false → ((0 : Int) ≤ c ∧ c < ((6 : Nat) : Int)) ∧ (Q .ret (⟨[(2, .c (.int .i64 (List.getD [0, 1, 8, 16, 32, 64] (Int.toNat c) 0))), (3, .c (.bool true))], [], []⟩ : LSt U))))))) :
    A110 [] (⟨[(0, .c (.int .i64 c))], [], []⟩ : LSt U) Q :=
  Eq.mpr (by kernel_rfl) h
def Body110 (c : Int)  : Prop := awp cfg (know (know110)) (drawOk cfg (know (know110))) Try.f110.ntmps lv110 (cd Try.f110 []) (entry (args110.can (c, ())) []) (EndsQ cfg Try.f110.ntmps Try.f110.results.toList (res110 (c, ())) [])
theorem make110 (hb : ∀ (c : Int) (_ : Unit), pre110 (c, ()) → Body110 c) : Contract Try.prog cfg 110 spec110 :=
  contract_flat (l := []) cfgOk rfl (trivial) lv110 Try.func110 rfl rfl 1 (fun _ => rfl) (by decide) (fun ⟨c, _⟩ => hb c ())
noncomputable def know83 : List (FuncId × Fs U) := [(110, spec110)]
def lv83 : Lives U := fun i => match i with
  | 0 => ([(0, [])], [])
  | 1 => ([(2, []), (3, [])], [])
  | _ => ([], [])
noncomputable abbrev A83 (p : List Nat) := awp cfg (know know83) (drawOk cfg (know know83)) Try.f83.ntmps lv83 (cd Try.f83 p)
theorem vc83 (c : Int) (Q : AExit → LSt U → Prop) (h : ((pre110 (c, ())) ∧ (Q .ret (⟨[(2, .c (.int .i64 (if wd c < 0 then 0 else wd c))), (3, .c (.bool (decide (0 ≤ wd c))))], [], []⟩ : LSt U)))) :
    A83 [] (⟨[(0, .c (.int .i64 c))], [], []⟩ : LSt U) Q :=
  Eq.mpr (by kernel_rfl) h
def Body83 (c : Int)  : Prop := awp cfg (know (know83)) (drawOk cfg (know (know83))) Try.f83.ntmps lv83 (cd Try.f83 []) (entry (args83.can (c, ())) []) (EndsQ cfg Try.f83.ntmps Try.f83.results.toList (res83 (c, ())) [])
theorem make83 (c110 : Contract Try.prog cfg 110 spec110) (hb : ∀ (c : Int) (_ : Unit), pre83 (c, ()) → Body83 c) : Contract Try.prog cfg 83 spec83 :=
  contract_flat (l := [(110, spec110)]) cfgOk rfl (⟨c110, trivial⟩) lv83 Try.func83 rfl rfl 1 (fun _ => rfl) (by decide) (fun ⟨c, _⟩ => hb c ())
noncomputable def know84 : List (FuncId × Fs U) := [(110, spec110)]
def lv84 : Lives U := fun i => match i with
  | 0 => ([(0, []), (1, []), (2, [])], [])
  | 1 => ([(0, []), (2, []), (7, []), (8, [])], [])
  | 2 => ([(0, []), (2, []), (7, []), (37, [])], [])
  | 3 => ([(6, [])], [])
  | 4 => ([(7, []), (9, [])], [])
  | 5 => ([(7, []), (9, []), (51, [])], [])
  | 6 => ([(6, [])], [])
  | 7 => ([(6, [])], [])
  | _ => ([], [])
noncomputable abbrev A84 (p : List Nat) := awp cfg (know know84) (drawOk cfg (know know84)) Try.f84.ntmps lv84 (cd Try.f84 p)
theorem vc84 (l : List Int) (c : Int) (i : Int) (Q : AExit → LSt U → Prop) (h : ∀ y_1, y_1 = (IntKind.wrap .i64 (Int.tdiv ((i : Int) * (if wd c < 0 then 0 else wd c)) 64)) → ((pre110 (c, ())) ∧ ((Tr ((!(!(decide (0 ≤ wd c)))) = true)) ∧ (((!(decide (0 ≤ wd c))) = false → (!(!(decide (0 ≤ wd c)))) = true)) ∧ (Tr ((!(bif (!(decide (0 ≤ wd c))) then true else (((if wd c < 0 then 0 else wd c) : Int) == 0))) = true)) ∧ (((bif (!(decide (0 ≤ wd c))) then true else (((if wd c < 0 then 0 else wd c) : Int) == 0)) = false → (!(bif (!(decide (0 ≤ wd c))) then true else (((if wd c < 0 then 0 else wd c) : Int) == 0))) = true)) ∧ (Tr ((!(bif (bif (!(decide (0 ≤ wd c))) then true else (((if wd c < 0 then 0 else wd c) : Int) == 0)) then true else (decide ((i : Int) < 0)))) = true)) ∧ (((bif (bif (!(decide (0 ≤ wd c))) then true else (((if wd c < 0 then 0 else wd c) : Int) == 0)) then true else (decide ((i : Int) < 0))) = false → (!(bif (bif (!(decide (0 ≤ wd c))) then true else (((if wd c < 0 then 0 else wd c) : Int) == 0)) then true else (decide ((i : Int) < 0)))) = true)) ∧ (Tr ((!(bif (bif (bif (!(decide (0 ≤ wd c))) then true else (((if wd c < 0 then 0 else wd c) : Int) == 0)) then true else (decide ((i : Int) < 0))) then true else (decide ((1099511627776 : Int) < i)))) = true)) ∧ (Tr ((!(bif (bif (bif (!(decide (0 ≤ wd c))) then true else (((if wd c < 0 then 0 else wd c) : Int) == 0)) then true else (decide ((i : Int) < 0))) then true else (decide ((1099511627776 : Int) < i)))) = true)) ∧ ((!(bif (bif (bif (!(decide (0 ≤ wd c))) then true else (((if wd c < 0 then 0 else wd c) : Int) == 0)) then true else (decide ((i : Int) < 0))) then true else (decide ((1099511627776 : Int) < i)))) = true → InR ((i : Int) * (if wd c < 0 then 0 else wd c))) ∧ (Tr ((!(bif (bif (bif (!(decide (0 ≤ wd c))) then true else (((if wd c < 0 then 0 else wd c) : Int) == 0)) then true else (decide ((i : Int) < 0))) then true else (decide ((1099511627776 : Int) < i)))) = true)) ∧ ((!(bif (bif (bif (!(decide (0 ≤ wd c))) then true else (((if wd c < 0 then 0 else wd c) : Int) == 0)) then true else (decide ((i : Int) < 0))) then true else (decide ((1099511627776 : Int) < i)))) = true → (64 : Int) ≠ 0) ∧ (Tr ((!(bif (bif (bif (!(decide (0 ≤ wd c))) then true else (((if wd c < 0 then 0 else wd c) : Int) == 0)) then true else (decide ((i : Int) < 0))) then true else (decide ((1099511627776 : Int) < i)))) = true)) ∧ (Tr ((!(bif (bif (bif (!(decide (0 ≤ wd c))) then true else (((if wd c < 0 then 0 else wd c) : Int) == 0)) then true else (decide ((i : Int) < 0))) then true else (decide ((1099511627776 : Int) < i)))) = true)) ∧ (Tr ((!(bif (bif (bif (!(decide (0 ≤ wd c))) then true else (((if wd c < 0 then 0 else wd c) : Int) == 0)) then true else (decide ((i : Int) < 0))) then true else (decide ((1099511627776 : Int) < i)))) = true)) ∧ (((bif (bif (bif (!(decide (0 ≤ wd c))) then true else (((if wd c < 0 then 0 else wd c) : Int) == 0)) then true else (decide ((i : Int) < 0))) then true else (decide ((1099511627776 : Int) < i))) = false → (!(bif (bif (bif (!(decide (0 ≤ wd c))) then true else (((if wd c < 0 then 0 else wd c) : Int) == 0)) then true else (decide ((i : Int) < 0))) then true else (decide ((1099511627776 : Int) < i)))) = true)) ∧ (((bif (bif (bif (bif (!(decide (0 ≤ wd c))) then true else (((if wd c < 0 then 0 else wd c) : Int) == 0)) then true else (decide ((i : Int) < 0))) then true else (decide ((1099511627776 : Int) < i))) then true else (decide (((l.length : Int) : Int) ≤ y_1))) = true → (Q .ret (⟨[(6, .c (.int .u64 0))], [], []⟩ : LSt U))) ∧ ((bif (bif (bif (bif (!(decide (0 ≤ wd c))) then true else (((if wd c < 0 then 0 else wd c) : Int) == 0)) then true else (decide ((i : Int) < 0))) then true else (decide ((1099511627776 : Int) < i))) then true else (decide (((l.length : Int) : Int) ≤ y_1))) = false → (InR ((i : Int) * (if wd c < 0 then 0 else wd c))) ∧ ((64 : Int) ≠ 0) ∧ ((0 : Int) ≤ y_1 ∧ y_1 < (l.length : Int)) ∧ (InR ((i : Int) * (if wd c < 0 then 0 else wd c))) ∧ ((64 : Int) ≠ 0) ∧ ((0 : Int) ≤ (Int.tmod ((i : Int) * (if wd c < 0 then 0 else wd c)) 64)) ∧ ((((((if wd c < 0 then 0 else wd c) : Int) == 64) = true → (Q .ret (⟨[(6, .c (.int .u64 (Int.fdiv (List.getD l (Int.toNat y_1) (0 : Int)) (2 ^ (min (Int.toNat (Int.tmod ((i : Int) * (if wd c < 0 then 0 else wd c)) 64)) (IntKind.bits .u64))))))], [], []⟩ : LSt U))) ∧ ((((if wd c < 0 then 0 else wd c) : Int) == 64) = false → ((0 : Int) ≤ (if wd c < 0 then 0 else wd c)) ∧ (Q .ret (⟨[(6, .c (.int .u64 (IntKind.wrap .u64 (BitVec.ofInt (IntKind.bits .u64) (Int.fdiv (List.getD l (Int.toNat y_1) (0 : Int)) (2 ^ (min (Int.toNat (Int.tmod ((i : Int) * (if wd c < 0 then 0 else wd c)) 64)) (IntKind.bits .u64)))) &&& BitVec.ofInt (IntKind.bits .u64) (IntKind.wrap .u64 (((IntKind.wrap .u64 ((1 : Int) * 2 ^ (min (Int.toNat (if wd c < 0 then 0 else wd c)) (IntKind.bits .u64)))) : Int) - 1))).toNat)))], [], []⟩ : LSt U)))))))))) :
    A84 [] (⟨[(0, .c (.slice (U := U) .u64 l .unk)), (1, .c (.int .i64 c)), (2, .c (.int .i64 i))], [], []⟩ : LSt U) Q :=
  Eq.mpr (by kernel_rfl) (h _ rfl)
def Body84 (l : List Int) (c : Int) (i : Int)  : Prop := awp cfg (know (know84)) (drawOk cfg (know (know84))) Try.f84.ntmps lv84 (cd Try.f84 []) (entry (args84.can (l, c, i, ())) []) (EndsQ cfg Try.f84.ntmps Try.f84.results.toList (res84 (l, c, i, ())) [])
theorem make84 (c110 : Contract Try.prog cfg 110 spec110) (hb : ∀ (l : List Int) (c : Int) (i : Int) (_ : Unit), pre84 (l, c, i, ()) → Body84 l c i) : Contract Try.prog cfg 84 spec84 :=
  contract_flat (l := [(110, spec110)]) cfgOk rfl (⟨c110, trivial⟩) lv84 Try.func84 rfl rfl 3 (fun _ => rfl) (by decide) (fun ⟨l, c, i, _⟩ => hb l c i ())
noncomputable def know86 : List (FuncId × Fs U) := []
def lv86 : Lives U := fun i => match i with
  | 0 => ([(0, []), (2, [])], [((.loc 2), [])])
  | 1 => ([(0, []), (2, []), (3, [])], [((.loc 2), [])])
  | 2 => ([(0, []), (2, []), (3, []), (9, [])], [((.loc 2), [])])
  | 3 => ([(2, [])], [((.loc 2), [])])
  | 4 => ([(0, []), (2, []), (3, []), (13, [])], [((.loc 2), [])])
  | 5 => ([(2, [])], [((.loc 2), [])])
  | 6 => ([(0, []), (2, []), (3, []), (26, [])], [((.loc 2), [])])
  | 7 => ([(2, [])], [((.loc 2), [])])
  | 8 => ([(0, []), (2, []), (39, [])], [((.loc 2), [])])
  | 9 => ([(2, [])], [((.loc 2), [])])
  | 10 => ([(2, [])], [((.loc 2), [])])
  | _ => ([], [])
noncomputable abbrev A86 (p : List Nat) := awp cfg (know know86) (drawOk cfg (know know86)) Try.f86.ntmps lv86 (cd Try.f86 p)
theorem vc86 (w : Int) (Q : AExit → LSt U → Prop) (h : ∀ y_1, y_1 = (BitVec.ofInt (IntKind.bits .u64) w &&& BitVec.ofInt (IntKind.bits .u64) 3) → (((0 : Int) ≤ 2) ∧ (((((w : Int) == 0) = true → (Q .ret (⟨[(2, .ptr (.loc 2) 0)], [((.loc 2), [.int .i64 0, .int .i64 0, .int .i64 0, .int .i64 0, .int .i64 0, .int .i64 0, .int .i64 0, .bool false])], []⟩ : LSt U))) ∧ (((w : Int) == 0) = false → (((((IntKind.wrap .u64 y_1.toNat) : Int) == 0) = true → ((0 : Int) ≤ 32) ∧ ((0 : Int) ≤ 48) ∧ (Q .ret (⟨[(2, .ptr (.loc 2) 0)], [((.loc 2), [.int .i64 1, .int .i64 (Int.fdiv (IntKind.wrap .i64 (IntKind.wrap .i32 (IntKind.wrap .u32 w))) (2 ^ (min (Int.toNat 2) (IntKind.bits .i64)))), .int .i64 (IntKind.wrap .i64 (IntKind.wrap .u64 (BitVec.ofInt (IntKind.bits .u64) (Int.fdiv w (2 ^ (min (Int.toNat 32) (IntKind.bits .u64)))) &&& BitVec.ofInt (IntKind.bits .u64) 65535).toNat)), .int .i64 (IntKind.wrap .i64 (Int.fdiv w (2 ^ (min (Int.toNat 48) (IntKind.bits .u64))))), .int .i64 0, .int .i64 0, .int .i64 0, .bool false])], []⟩ : LSt U))) ∧ ((((IntKind.wrap .u64 y_1.toNat) : Int) == 0) = false → (((((IntKind.wrap .u64 y_1.toNat) : Int) == 1) = true → ((0 : Int) ≤ 32) ∧ ((0 : Int) ≤ 35) ∧ (Q .ret (⟨[(2, .ptr (.loc 2) 0)], [((.loc 2), [.int .i64 2, .int .i64 (Int.fdiv (IntKind.wrap .i64 (IntKind.wrap .i32 (IntKind.wrap .u32 w))) (2 ^ (min (Int.toNat 2) (IntKind.bits .i64)))), .int .i64 0, .int .i64 0, .int .i64 (IntKind.wrap .i64 (IntKind.wrap .u64 (BitVec.ofInt (IntKind.bits .u64) (Int.fdiv w (2 ^ (min (Int.toNat 32) (IntKind.bits .u64)))) &&& BitVec.ofInt (IntKind.bits .u64) 7).toNat)), .int .i64 (IntKind.wrap .i64 (Int.fdiv w (2 ^ (min (Int.toNat 35) (IntKind.bits .u64))))), .int .i64 0, .bool false])], []⟩ : LSt U))) ∧ ((((IntKind.wrap .u64 y_1.toNat) : Int) == 1) = false → (((((IntKind.wrap .u64 y_1.toNat) : Int) == 2) = true → ((0 : Int) ≤ 3) ∧ ((0 : Int) ≤ 32) ∧ (Q .ret (⟨[(2, .ptr (.loc 2) 0)], [((.loc 2), [.int .i64 3, .int .i64 (IntKind.wrap .i64 (IntKind.wrap .u64 (BitVec.ofInt (IntKind.bits .u64) (Int.fdiv w (2 ^ (min (Int.toNat 3) (IntKind.bits .u64)))) &&& BitVec.ofInt (IntKind.bits .u64) 536870911).toNat)), .int .i64 0, .int .i64 0, .int .i64 0, .int .i64 0, .int .i64 (IntKind.wrap .i64 (Int.fdiv w (2 ^ (min (Int.toNat 32) (IntKind.bits .u64))))), .bool (((IntKind.wrap .u64 (BitVec.ofInt (IntKind.bits .u64) w &&& BitVec.ofInt (IntKind.bits .u64) 4).toNat) : Int) != 0)])], []⟩ : LSt U))) ∧ ((((IntKind.wrap .u64 y_1.toNat) : Int) == 2) = false → (Q .ret (⟨[(2, .ptr (.loc 2) 0)], [((.loc 2), [.int .i64 4, .int .i64 0, .int .i64 0, .int .i64 0, .int .i64 0, .int .i64 0, .int .i64 0, .bool false])], []⟩ : LSt U))))))))))))) :
    A86 [] (⟨[(0, .c (.int .u64 w))], [], []⟩ : LSt U) Q :=
  Eq.mpr (by kernel_rfl) (h _ rfl)
def Body86 (w : Int)  : Prop := awp cfg (know (know86)) (drawOk cfg (know (know86))) Try.f86.ntmps lv86 (cd Try.f86 []) (entry (args86.can (w, ())) []) (EndsQ cfg Try.f86.ntmps Try.f86.results.toList (res86 (w, ())) [])
theorem make86 (hb : ∀ (w : Int) (_ : Unit), pre86 (w, ()) → Body86 w) : Contract Try.prog cfg 86 spec86 :=
  contract_flat (l := []) cfgOk rfl (trivial) lv86 Try.func86 rfl rfl 1 (fun _ => rfl) (by decide) (fun ⟨w, _⟩ => hb w ())
noncomputable def know124 : List (FuncId × Fs U) := []
def lv124 : Lives U := fun i => match i with
  | 0 => ([(0, []), (1, [])], [])
  | 1 => ([(4, [])], [])
  | _ => ([], [])
noncomputable abbrev A124 (p : List Nat) := awp cfg (know know124) (drawOk cfg (know know124)) Try.f124.ntmps lv124 (cd Try.f124 p)
theorem vc124 (n : Int) (to : Int) (Q : AExit → LSt U → Prop) (h : ((Tr ((decide ((0 : Int) ≤ n)) = true)) ∧ (Tr ((decide ((0 : Int) ≤ n)) = true)) ∧ ((Tr ((decide ((0 : Int) ≤ n)) = true))) ∧ (Q .ret (⟨[(4, .c (.bool (bif (decide ((0 : Int) ≤ n)) then (decide ((n : Int) ≤ to)) else false)))], [], []⟩ : LSt U)))) :
    A124 [] (⟨[(0, .c (.int .i64 n)), (1, .c (.int .i64 to))], [], []⟩ : LSt U) Q :=
  Eq.mpr (by kernel_rfl) h
def Body124 (n : Int) (to : Int)  : Prop := awp cfg (know (know124)) (drawOk cfg (know (know124))) Try.f124.ntmps lv124 (cd Try.f124 []) (entry (args124.can (n, to, ())) []) (EndsQ cfg Try.f124.ntmps Try.f124.results.toList (res124 (n, to, ())) [])
theorem make124 (hb : ∀ (n : Int) (to : Int) (_ : Unit), pre124 (n, to, ()) → Body124 n to) : Contract Try.prog cfg 124 spec124 :=
  contract_flat (l := []) cfgOk rfl (trivial) lv124 Try.func124 rfl rfl 2 (fun _ => rfl) (by decide) (fun ⟨n, to, _⟩ => hb n to ())
noncomputable def know122 : List (FuncId × Fs U) := [(124, spec124)]
def lv122 : Lives U := fun i => match i with
  | 0 => ([(1, [])], [((.loc 1), [])])
  | 1 => ([(1, []), (4, [])], [((.loc 1), []), ((.loc 4), [])])
  | 2 => ([(1, []), (4, []), (6, [])], [((.loc 1), []), ((.loc 4), [])])
  | 3 => ([(2, []), (3, [])], [])
  | 4 => ([(1, []), (4, []), (15, [])], [((.loc 1), []), ((.loc 4), [])])
  | 5 => ([(2, []), (3, [])], [])
  | 6 => ([(1, []), (4, []), (27, [])], [((.loc 1), []), ((.loc 4), [])])
  | 7 => ([(2, []), (3, [])], [])
  | 8 => ([(2, []), (3, [])], [])
  | _ => ([], [])
noncomputable abbrev A122 (p : List Nat) := awp cfg (know know122) (drawOk cfg (know know122)) Try.f122.ntmps lv122 (cd Try.f122 p)
theorem vc122 (p : Ptr) (Q : AExit → LSt U → Prop) (h : ∀ y_1, y_1 = (List.getD [0, 1, 8, 16, 32, 64, 64] (Int.toNat (Ptr.code p)) 0) → (((((((Ptr.kind p) : Int) == 1) = true → (InR (((Ptr.data p) : Int) + (Ptr.ptrs p))) ∧ (Q .ret (⟨[(2, .c (.int .i64 (((Ptr.data p) : Int) + (Ptr.ptrs p)))), (3, .c (.bool true))], [], []⟩ : LSt U))) ∧ ((((Ptr.kind p) : Int) == 1) = false → (Tr ((((Ptr.kind p) : Int) == 2) = true)) ∧ (Tr ((((Ptr.kind p) : Int) == 2) = true)) ∧ ((Tr ((((Ptr.kind p) : Int) == 2) = true))) ∧ (((bif (((Ptr.kind p) : Int) == 2) then (((Ptr.code p) : Int) == 7) else false) = true → (InR (((Ptr.count p) : Int) + 1)) ∧ (Q .ret (⟨[(2, .c (.int .i64 (((Ptr.count p) : Int) + 1))), (3, .c (.bool true))], [], []⟩ : LSt U))) ∧ ((bif (((Ptr.kind p) : Int) == 2) then (((Ptr.code p) : Int) == 7) else false) = false → (Tr ((((Ptr.kind p) : Int) == 2) = true)) ∧ (Tr ((((Ptr.kind p) : Int) == 2) = true)) ∧ ((((Ptr.kind p) : Int) == 2) = true → pre124 ((Ptr.code p), 6, ())) ∧ ((Tr ((((Ptr.kind p) : Int) == 2) = true))) ∧ (Tr ((bif (((Ptr.kind p) : Int) == 2) then (decide (0 ≤ (Ptr.code p) ∧ (Ptr.code p) ≤ 6)) else false) = true)) ∧ (Tr ((bif (((Ptr.kind p) : Int) == 2) then (decide (0 ≤ (Ptr.code p) ∧ (Ptr.code p) ≤ 6)) else false) = true)) ∧ ((bif (((Ptr.kind p) : Int) == 2) then (decide (0 ≤ (Ptr.code p) ∧ (Ptr.code p) ≤ 6)) else false) = true → pre124 ((Ptr.count p), 536870911, ())) ∧ ((Tr ((bif (((Ptr.kind p) : Int) == 2) then (decide (0 ≤ (Ptr.code p) ∧ (Ptr.code p) ≤ 6)) else false) = true))) ∧ (((bif (bif (((Ptr.kind p) : Int) == 2) then (decide (0 ≤ (Ptr.code p) ∧ (Ptr.code p) ≤ 6)) else false) then (decide (0 ≤ (Ptr.count p) ∧ (Ptr.count p) ≤ 536870911)) else false) = true → ((0 : Int) ≤ (Ptr.code p) ∧ (Ptr.code p) < ((7 : Nat) : Int)) ∧ (InR (((Ptr.count p) : Int) * y_1)) ∧ (InR (((((Ptr.count p) : Int) * y_1) : Int) + 63)) ∧ ((64 : Int) ≠ 0) ∧ (Q .ret (⟨[(2, .c (.int .i64 (IntKind.wrap .i64 (Int.tdiv (((((Ptr.count p) : Int) * y_1) : Int) + 63) 64)))), (3, .c (.bool true))], [], []⟩ : LSt U))) ∧ ((bif (bif (((Ptr.kind p) : Int) == 2) then (decide (0 ≤ (Ptr.code p) ∧ (Ptr.code p) ≤ 6)) else false) then (decide (0 ≤ (Ptr.count p) ∧ (Ptr.count p) ≤ 536870911)) else false) = false → (Q .ret (⟨[(2, .c (.int .i64 0)), (3, .c (.bool false))], [], []⟩ : LSt U))))))))))) :
    A122 [] (⟨[(0, .agg [.int .i64 (Ptr.kind p), .int .i64 (Ptr.off p), .int .i64 (Ptr.data p), .int .i64 (Ptr.ptrs p), .int .i64 (Ptr.code p), .int .i64 (Ptr.count p), .int .i64 (Ptr.segment p), .bool (Ptr.double p)])], [], []⟩ : LSt U) Q :=
  Eq.mpr (by kernel_rfl) (h _ rfl)
def Body122 (p : Ptr)  : Prop := awp cfg (know (know122)) (drawOk cfg (know (know122))) Try.f122.ntmps lv122 (cd Try.f122 []) (entry (args122.can (p, ())) []) (EndsQ cfg Try.f122.ntmps Try.f122.results.toList (res122 (p, ())) [])
theorem make122 (c124 : Contract Try.prog cfg 124 spec124) (hb : ∀ (p : Ptr) (_ : Unit), pre122 (p, ()) → Body122 p) : Contract Try.prog cfg 122 spec122 :=
  contract_flat (l := [(124, spec124)]) cfgOk rfl (⟨c124, trivial⟩) lv122 Try.func122 rfl rfl 1 (fun _ => rfl) (by decide) (fun ⟨p, _⟩ => hb p ())
end Go.AM.Ythokdjgpdonhgaa

namespace Go.AM
def refZ : Ref := ⟨none, 0, 0, 0, 0, 0, 0, 0⟩
def liftX (a : Option Arena) (x : XRef) : Ref := if x.kind = 0 then refZ else ⟨a, x.kind, x.s, x.at_, x.data, x.ptrs, x.count, x.n⟩
def unX (r : Ref) : XRef := ⟨r.kind, r.segment, r.at_, r.data, r.kids, r.count, r.number⟩
def okR (r : Ref) : Prop := okA r.a ∧ OkX (segO r.a) (unX r)
def lenR (r : Ref) : Int := if r.kind = 1 then r.data else if r.kind = 10 then 1 else 0
def kidsR (r : Ref) : Int := if r.kind = 1 then r.kids else r.count
def wordR (r : Ref) (i : Int) : Int := if i < 0 then 0 else (wordsX (segO r.a) (unX r)).getD i.toNat 0
theorem kidsR_un (r : Ref) : kidsR r = kidsX (unX r) := rfl
theorem unX_lift {a : Option Arena} {x : XRef} {l : List (List Int)} (h : OkX l x) : unX (liftX a x) = x := by
  unfold liftX
  split
  · rename_i h0
    rw [h.null h0]; rfl
  · rfl
theorem a_lift {a : Option Arena} {x : XRef} (h : x.kind ≠ 0) : (liftX a x).a = a := by unfold liftX; rw [if_neg h]
theorem okR_lift {a : Option Arena} {x : XRef} (ha : okA a) (h : OkX (segO a) x) : okR (liftX a x) := by
  by_cases h0 : x.kind = 0
  · unfold liftX
    rw [if_pos h0]
    exact ⟨⟨by simp [refZ, segO], fun w hw => by simp [refZ, segO] at hw⟩, okX_z⟩
  · refine ⟨by rw [a_lift h0]; exact ha, ?_⟩
    rw [unX_lift h, a_lift h0]
    exact h
end Go.AM

namespace Go.AM.Ythokdjgpdonhgaa
open Go.AM Go.Proofs
theorem ends_bool {n k : Nat} {rs : List ResultVar} {b b' : Bool} (hr : rs = [ResultVar.tmp k]) (h : b = b') : EndsQ cfg n rs (.c (.bool b')) [] .ret (⟨[(k, .c (.bool b))], [], []⟩ : LSt U) := by
  subst hr h
  have hk : Nat.beq k k = true := Nat.beq_refl k
  simp [EndsQ, Ends, EndsL, LsEnd, resAll, resOne, LSt.toF, look, hk, partsV, resTok, passC, passC1, leR, leL, leC, XEnd]
theorem ends_int {n k : Nat} {rs : List ResultVar} {K : IntKind} {b b' : Int} (hr : rs = [ResultVar.tmp k]) (h : b = b') : EndsQ cfg n rs (.c (.int K b')) [] .ret (⟨[(k, .c (.int K b))], [], []⟩ : LSt U) := by
  subst hr h
  have hk : Nat.beq k k = true := Nat.beq_refl k
  simp [EndsQ, Ends, EndsL, LsEnd, resAll, resOne, LSt.toF, look, hk, partsV, resTok, passC, passC1, leR, leL, leC, XEnd]
theorem ends_eq {n : Nat} {rs : List ResultVar} {r r' : V U} {X : List (List (C U))} {e : AExit} {s : LSt U} (hr : r = r') (h : EndsQ cfg n rs r' X e s) : EndsQ cfg n rs r X e s := by rw [hr]; exact h
theorem dropI {α : Type} {l : List α} {i : Int} (h0 : 0 ≤ i) (h : i < l.length) (d : α) : l.drop i.toNat = l.getD i.toNat d :: l.drop (i + 1).toNat := by
  rw [show (i + 1).toNat = i.toNat + 1 by omega, List.getD_eq_getElem?_getD, List.getElem?_eq_getElem (by omega)]
  exact List.drop_eq_getElem_cons (by omega)
theorem mem_getD {α : Type} {l : List α} {i : Nat} (h : i < l.length) (d : α) : l.getD i d ∈ l := by
  rw [List.getD_eq_getElem?_getD, List.getElem?_eq_getElem h]
  exact List.getElem_mem h
theorem pow2_pos (k : Nat) : (0 : Int) < 2 ^ k := Int.pow_pos (by decide)
end Go.AM.Ythokdjgpdonhgaa

namespace Go.AM.Ythokdjgpdonhgaa
open Go.AM Go.Proofs
theorem c56 : Contract Try.prog cfg 56 spec56 := by
  refine make56 ?_
  intro c _ _
  refine vc56 _ _ ?_
  (simp only [vcT, vcS])
  refine ⟨fun h => ends_int rfl ?_, fun h => ⟨fun h => ends_int rfl ?_, fun h => ⟨fun h => ends_int rfl ?_, fun h => ⟨fun h => ends_int rfl ?_, fun h => ⟨fun h => ends_int rfl ?_, fun h => ⟨fun h => ends_int rfl ?_, fun h => ends_int rfl ?_⟩⟩⟩⟩⟩⟩
  all_goals (simp only [wd]; repeat' split) <;> omega
theorem wd_list {c : Int} (h0 : 0 ≤ c) (h1 : c < 6) : List.getD [0, 1, 8, 16, 32, 64] c.toNat 0 = wd c ∧ 0 ≤ wd c := by
  have : c = 0 ∨ c = 1 ∨ c = 2 ∨ c = 3 ∨ c = 4 ∨ c = 5 := by omega
  rcases this with rfl | rfl | rfl | rfl | rfl | rfl <;> decide
theorem wd_out {c : Int} (h : c < 0 ∨ 6 ≤ c) : wd c = -1 := by
  unfold wd
  repeat' split
  all_goals omega
theorem c110 : Contract Try.prog cfg 110 spec110 := by
  refine make110 ?_
  intro c _ _
  refine vc110 _ _ ?_
  (simp only [vcT, vcS])
  refine ⟨fun h => ?_, fun h => ⟨by omega, ?_⟩⟩
  · refine ends_eq (r' := .tup [(false, [.int .i64 0]), (false, [.bool false])]) ?_ (by (repeat' (first | exact trivial | exact rfl | apply And.intro)))
    simp only [res110, wd_out h]
    rfl
  · have hw := wd_list (c := c) (by omega) (by omega)
    refine ends_eq (r' := .tup [(false, [.int .i64 (List.getD [0, 1, 8, 16, 32, 64] (Int.toNat c) 0)]), (false, [.bool true])]) ?_ (by (repeat' (first | exact trivial | exact rfl | apply And.intro)))
    simp only [res110, hw.1]
    rw [if_neg (by omega), decide_eq_true hw.2]
theorem c83 : Contract Try.prog cfg 83 spec83 := by
  refine make83 c110 ?_
  intro c _ _
  refine vc83 _ _ ?_
  refine ⟨trivial, ?_⟩
  (repeat' (first | exact trivial | exact rfl | apply And.intro))
theorem wd_div (c : Int) : wd c < 1 ∨ wd c = 1 ∨ wd c = 8 ∨ wd c = 16 ∨ wd c = 32 ∨ wd c = 64 := by have := wd_cases c; omega
theorem wd_le (c : Int) : -1 ≤ wd c ∧ wd c ≤ 64 := by have := wd_cases c; omega
theorem wd_at {c i : Int} (hi : 0 ≤ i) (hi' : i ≤ 1099511627776) (hw : 1 ≤ wd c) : 0 ≤ i * wd c ∧ i * wd c ≤ 70368744177664 ∧ i * wd c % 64 + wd c ≤ 64 ∧
    ∀ k, 0 ≤ k → k < wd c → (i * wd c + k) / 64 = i * wd c / 64 ∧ (i * wd c + k) % 64 = i * wd c % 64 + k := by
  rcases wd_div c with e | e | e | e | e | e
  · omega
  all_goals (rw [e]; refine ⟨by omega, by omega, by omega, fun k _ _ => ⟨by omega, by omega⟩⟩)
def wordW (l : List Int) (q : Int) : Int := if (l.length : Int) ≤ q then 0 else l.getD q.toNat 0
theorem getW_eq {l : List Int} {c i : Int} (hw : 1 ≤ wd c) (h0 : 0 ≤ i) (h1 : i ≤ 1099511627776) : getW l c i = wordW l (i * wd c / 64) / 2 ^ (i * wd c % 64).toNat % 2 ^ (wd c).toNat := by
  unfold getW wordW
  by_cases h2 : (l.length : Int) ≤ i * wd c / 64
  · rw [if_pos (by omega), if_pos h2]; simp
  · rw [if_neg (by omega), if_neg h2]
theorem shr_u64 {x : Int} {n : Int} (h0 : 0 ≤ n) (h1 : n ≤ 64) : Int.fdiv x (2 ^ (min n.toNat (IntKind.bits .u64))) = x / 2 ^ n.toNat := by
  rw [show min n.toNat (IntKind.bits .u64) = n.toNat by simp [IntKind.bits]; omega, Int.fdiv_eq_ediv_of_nonneg _ (Int.le_of_lt (pow2_pos _))]
theorem c84 : Contract Try.prog cfg 84 spec84 := by
  refine make84 c110 ?_
  intro l c i _ hp
  simp only [pre84] at hp
  refine vc84 _ _ _ _ ?_
  rintro y hy
  (simp only [vcT, vcS])
  dsimp only at hy
  have hw := wd_cases c
  by_cases hg : 1 ≤ wd c
  · rw [if_neg (show ¬ wd c < 0 by omega)] at hy ⊢
    refine ⟨trivial, fun h => ?_, fun _ => by decide, fun h => ends_int rfl ?_, fun h => ?_⟩
    · obtain ⟨a0, a1, a2, a3⟩ := wd_at (c := c) (i := i) (by omega) (by omega) hg
      ((unfold InR; omega))
    · show (0 : Int) = getW l c i
      unfold getW
      by_cases h0 : i < 0 ∨ 1099511627776 < i
      · rw [if_pos (by omega)]
      · obtain ⟨a0, a1, a2, a3⟩ := wd_at (c := c) (i := i) (by omega) (by omega) hg
        rw [Int.tdiv_eq_ediv_of_nonneg a0, wrap_i64 (by omega) (by omega)] at hy
        rw [if_pos (by omega)]
    · obtain ⟨a0, a1, a2, a3⟩ := wd_at (c := c) (i := i) (by omega) (by omega) hg
      rw [Int.tdiv_eq_ediv_of_nonneg a0, wrap_i64 (by omega) (by omega)] at hy
      have hx := getD_word hp y.toNat
      have hm : Int.tmod (i * wd c) 64 = i * wd c % 64 := Int.tmod_eq_emod_of_nonneg a0
      rw [hm, shr_u64 (by omega) (by omega)]
      have hg' : getW l c i = l.getD y.toNat 0 / 2 ^ (i * wd c % 64).toNat % 2 ^ (wd c).toNat := by
        rw [getW_eq hg (by omega) (by omega)]
        unfold wordW
        rw [← hy, if_neg (by omega)]
      have hz0 : 0 ≤ l.getD y.toNat 0 / 2 ^ (i * wd c % 64).toNat := Int.ediv_nonneg hx.1 (Int.le_of_lt (pow2_pos _))
      have hz1 : l.getD y.toNat 0 / 2 ^ (i * wd c % 64).toNat < 18446744073709551616 := Int.lt_of_le_of_lt (Int.ediv_le_self _ hx.1) hx.2
      refine ⟨by ((unfold InR; omega)), by decide, by omega, by ((unfold InR; omega)), by decide, by omega, fun h64 => ends_int rfl ?_, fun h64 => ⟨by omega, ends_int rfl ?_⟩⟩
      · show _ = getW l c i
        rw [hg']
        have h64' : (2 : Int) ^ (wd c).toNat = 18446744073709551616 := by rw [h64]; rfl
        rw [h64']
        exact (Int.emod_eq_of_lt hz0 hz1).symm
      · show _ = getW l c i
        rw [hg']
        refine and_mask hz0 hz1 (wd c).toNat (by omega) ?_
        rcases wd_div c with e | e | e | e | e | e
        · omega
        all_goals first | (rw [e]; decide) | omega
  · refine ⟨trivial, fun h => ?_, fun _ => by decide, fun h => ends_int rfl ?_, fun h => ?_⟩
    · exfalso
      have h1 := h.1.1.2
      rw [if_neg (by omega)] at h1
      omega
    · show (0 : Int) = getW l c i
      unfold getW
      rw [if_pos (by omega)]
    · exfalso
      have h1 := h.1.1.1.2
      rw [if_neg (by omega)] at h1
      omega
theorem and3 {w : Int} (h0 : 0 ≤ w) (h1 : w < 18446744073709551616) : IntKind.wrap .u64 (BitVec.ofInt (IntKind.bits .u64) w &&& BitVec.ofInt (IntKind.bits .u64) 3).toNat = w % 4 := and_mask h0 h1 2 (by decide) rfl
theorem and4 {w : Int} (h0 : 0 ≤ w) (h1 : w < 18446744073709551616) : (IntKind.wrap .u64 (BitVec.ofInt (IntKind.bits .u64) w &&& BitVec.ofInt (IntKind.bits .u64) 4).toNat != 0) = decide (w / 4 % 2 = 1) := by
  obtain ⟨n, rfl⟩ := Int.eq_ofNat_of_zero_le h0
  have e1 : BitVec.ofInt (IntKind.bits .u64) ((n : Nat) : Int) = BitVec.ofNat 64 n := by simp [IntKind.bits]
  have e2 : BitVec.ofInt (IntKind.bits .u64) (4 : Int) = BitVec.ofNat 64 4 := rfl
  rw [e1, e2]
  have hn : n < 2 ^ 64 := by omega
  have e4 : (BitVec.ofNat 64 n &&& BitVec.ofNat 64 4).toNat = n / 4 % 2 * 4 := by
    rw [BitVec.toNat_and, BitVec.toNat_ofNat, BitVec.toNat_ofNat, Nat.mod_eq_of_lt hn]
    apply Nat.eq_of_testBit_eq
    intro k
    rw [Nat.testBit_and, show (4 % 2 ^ 64 : Nat) = 2 ^ 2 from rfl, Nat.testBit_two_pow]
    by_cases hk : 2 = k
    · subst hk
      rw [Nat.testBit_eq_decide_div_mod_eq]
      have : n / 4 % 2 = 0 ∨ n / 4 % 2 = 1 := by omega
      rcases this with e | e <;> rw [show n / 2 ^ 2 = n / 4 from rfl, e] <;> decide
    · have : n / 4 % 2 = 0 ∨ n / 4 % 2 = 1 := by omega
      rcases this with e | e <;> rw [e]
      · simp [hk]
      · rw [show 1 * 4 = 2 ^ 2 from rfl, Nat.testBit_two_pow]; simp [hk]
  show (IntKind.wrap .u64 ((BitVec.ofNat 64 n &&& BitVec.ofNat 64 4).toNat : Int) != 0) = _
  rw [e4, wrap_u64 (by omega) (by omega)]
  rw [Bool.eq_iff_iff]
  simp
  omega
theorem off_dec {w : Int} (h0 : 0 ≤ w) (h1 : w < 18446744073709551616) : Int.fdiv (IntKind.wrap .i64 (IntKind.wrap .i32 (IntKind.wrap .u32 w))) (2 ^ (min (Int.toNat 2) (IntKind.bits .i64))) = offP w := by
  show Int.fdiv _ 4 = _
  rw [Int.fdiv_eq_ediv_of_nonneg _ (by decide)]
  unfold offP
  simp only [IntKind.wrap, IntKind.signed, IntKind.bits]
  simp
  repeat' split
  all_goals omega
theorem c86 : Contract Try.prog cfg 86 spec86 := by
  refine make86 ?_
  intro w _ hp
  simp only [pre86] at hp
  refine vc86 _ _ ?_
  rintro y hy
  dsimp only at hy
  have h3 := and3 hp.1 hp.2
  rw [← hy] at h3
  (simp only [vcT, vcS])
  rw [h3, off_dec hp.1 hp.2, and4 hp.1 hp.2]
  have hs : ∀ (k : Nat), k ≤ 64 → Int.fdiv w (2 ^ (min (Int.toNat (k : Int)) (IntKind.bits .u64))) = w / 2 ^ k := fun k hk => shr_u64 (x := w) (n := (k : Int)) (by omega) (by omega)
  have s32 := hs 32 (by decide)
  have s48 := hs 48 (by decide)
  have s35 := hs 35 (by decide)
  have s3 := hs 3 (by decide)
  have m1 : ∀ x m : Int, 0 ≤ x → x < 18446744073709551616 → ∀ k : Nat, k ≤ 32 → m = 2 ^ k - 1 → IntKind.wrap .i64 (IntKind.wrap .u64 (BitVec.ofInt (IntKind.bits .u64) x &&& BitVec.ofInt (IntKind.bits .u64) m).toNat) = x % 2 ^ k := by
    intro x m hx0 hx1 k hk hm
    rw [and_mask hx0 hx1 k (by omega) hm]
    have hp' := pow2_pos k
    have hle : (2 : Int) ^ k ≤ 4294967296 := by
      have : (2 : Int) ^ k = ((2 ^ k : Nat) : Int) := by simp
      rw [this]
      have := Nat.pow_le_pow_right (n := 2) (show 0 < 2 by decide) hk
      omega
    have a1 := Int.emod_nonneg x (show (2 : Int) ^ k ≠ 0 by omega)
    have a2 := Int.emod_lt_of_pos x hp'
    exact wrap_i64 (by omega) (by omega)
  erw [s32, s48, s35, s3]
  rw [m1 _ 65535 (by omega) (by omega) 16 (by decide) rfl, m1 _ 7 (by omega) (by omega) 3 (by decide) rfl, m1 _ 536870911 (by omega) (by omega) 29 (by decide) rfl]
  rw [wrap_i64 (n := w / 2 ^ 48) (by omega) (by omega), wrap_i64 (n := w / 2 ^ 35) (by omega) (by omega), wrap_i64 (n := w / 2 ^ 32) (by omega) (by omega)]
  refine ⟨by decide, fun h => ?_, fun hz => ⟨fun h => ⟨by decide, by decide, ?_⟩, fun h0 => ⟨fun h => ⟨by decide, by decide, ?_⟩, fun h1 => ⟨fun h => ⟨by decide, by decide, ?_⟩, fun h2 => ?_⟩⟩⟩⟩
  all_goals
    refine ends_eq (r' := .agg (enc .ptr (decP w))) rfl ?_
  · rw [show decP w = pz by unfold decP; rw [if_pos h]]; (repeat' (first | exact trivial | exact rfl | apply And.intro))
  · rw [show decP w = ⟨1, offP w, w / 4294967296 % 65536, w / 281474976710656, 0, 0, 0, false⟩ by unfold decP; rw [if_neg hz, if_pos h]]; (repeat' (first | exact trivial | exact rfl | apply And.intro))
  · rw [show decP w = ⟨2, offP w, 0, 0, w / 4294967296 % 8, w / 34359738368, 0, false⟩ by unfold decP; rw [if_neg hz, if_neg h0, if_pos h]]; (repeat' (first | exact trivial | exact rfl | apply And.intro))
  · rw [show decP w = ⟨3, w / 8 % 536870912, 0, 0, 0, 0, w / 4294967296, decide (w / 4 % 2 = 1)⟩ by unfold decP; rw [if_neg hz, if_neg h0, if_neg h1, if_pos h]]; (repeat' (first | exact trivial | exact rfl | apply And.intro))
  · rw [show decP w = ⟨4, 0, 0, 0, 0, 0, 0, false⟩ by unfold decP; rw [if_neg hz, if_neg h0, if_neg h1, if_neg h2]]; (repeat' (first | exact trivial | exact rfl | apply And.intro))
theorem c124 : Contract Try.prog cfg 124 spec124 := by
  refine make124 ?_
  intro n to _ _
  refine vc124 _ _ _ ?_
  (simp only [vcT, vcS])
  refine ends_bool rfl ?_
  rw [Bool.eq_iff_iff]
  (simp only [vcT, vcS])
theorem c122 : Contract Try.prog cfg 122 spec122 := by
  refine make122 c124 ?_
  intro p _ hp
  simp only [pre122] at hp
  have h1 := hp.data
  have h2 := hp.ptrs
  have h3 := hp.code
  have h4 := hp.count
  refine vc122 _ _ ?_
  rintro y hy
  (simp only [vcT, vcS])
  dsimp only at hy
  have hy' : p.code ≤ 6 → y = bitsP p.code := fun h => by
    have : p.code = 0 ∨ p.code = 1 ∨ p.code = 2 ∨ p.code = 3 ∨ p.code = 4 ∨ p.code = 5 ∨ p.code = 6 := by omega
    rcases this with e | e | e | e | e | e | e <;> rw [hy, e] <;> decide
  have hb : 0 ≤ bitsP p.code ∧ bitsP p.code ≤ 64 := by unfold bitsP; (repeat' split) <;> omega
  have hc : p.code ≤ 6 → 0 ≤ p.count * y ∧ p.count * y ≤ 34359738368 := fun h => by
    rw [hy' h]
    have := Int.mul_le_mul (Int.le_of_lt h4.2) hb.2 hb.1 (by decide : (0 : Int) ≤ 536870912)
    exact ⟨Int.mul_nonneg h4.1 hb.1, by omega⟩
  have hr : ∀ n : Int, 0 ≤ n → wordsP p = n → res122 (p, ()) = .tup [(false, [.int .i64 n]), (false, [.bool true])] := fun n h0 h => by
    simp only [res122]; rw [h, if_neg (by omega), decide_eq_true h0]
  have hr' : wordsP p < 0 → res122 (p, ()) = .tup [(false, [.int .i64 0]), (false, [.bool false])] := fun h => by
    simp only [res122]; rw [if_pos h, decide_eq_false (by omega)]
  refine ⟨fun k1 => ⟨by ((unfold InR; omega)), ?_⟩, fun k1 => ⟨fun k2 => ⟨by ((unfold InR; omega)), ?_⟩, fun k2 => ⟨fun _ => trivial, fun _ => trivial, fun k3 => ?_, fun k3 => ?_⟩⟩⟩
  · rw [hr (p.data + p.ptrs) (by omega) (by unfold wordsP; rw [if_pos k1])]; (repeat' (first | exact trivial | exact rfl | apply And.intro))
  · rw [hr (p.count + 1) (by omega) (by unfold wordsP; rw [if_neg k1, if_pos k2.1, if_pos k2.2])]; (repeat' (first | exact trivial | exact rfl | apply And.intro))
  · have hcc := hc k3.1.2.2
    rw [Int.tdiv_eq_ediv_of_nonneg (by omega), wrap_i64 (by omega) (by omega)]
    refine ⟨by omega, by ((unfold InR; omega)), by ((unfold InR; omega)), by decide, ?_⟩
    rw [hr ((p.count * y + 63) / 64) (by omega) (by unfold wordsP; rw [if_neg k1, if_pos k3.1.1, if_neg (by omega), if_neg (by omega), hy' k3.1.2.2])]; (repeat' (first | exact trivial | exact rfl | apply And.intro))
  · have hn : wordsP p < 0 := by
      unfold wordsP
      rw [if_neg k1]
      split
      · rw [if_neg (by omega), if_pos (by omega)]; decide
      · decide
    rw [hr' hn]; (repeat' (first | exact trivial | exact rfl | apply And.intro))
end Go.AM.Ythokdjgpdonhgaa

namespace Go.AM.Ythokdjgpdonhgaa
open Go.AM Go.Proofs
def args112 : ArgL (Option Arena × Unit) := (.cons (aPo .arena) .nil)
def pre112 (a : Option Arena × Unit) : Prop := okA a.1
noncomputable def res112 (a : Option Arena × Unit) : V U := .c (.int .i64 ((segO a.1).length : Int))
noncomputable def spec112 : Fs U := fs args112 (fun a => [pre112 a]) res112
def args111 : ArgL (Option Arena × Int × Unit) := (.cons (aPo .arena) (.cons (aInt .i64) .nil))
def pre111 (a : Option Arena × Int × Unit) : Prop := okA a.1
noncomputable def res111 (a : Option Arena × Int × Unit) : V U := .c (.int .i64 ((segAt (segO a.1) a.2.1).length : Int))
noncomputable def spec111 : Fs U := fs args111 (fun a => [pre111 a]) res111
def args85 : ArgL (Option Arena × Int × Int × Int × Unit) := (.cons (aPo .arena) (.cons (aInt .i64) (.cons (aInt .i64) (.cons (aInt .i64) .nil))))
def pre85 (a : Option Arena × Int × Int × Int × Unit) : Prop := okA a.1
noncomputable def res85 (a : Option Arena × Int × Int × Int × Unit) : V U := .c (.bool (hasN (segO a.1) a.2.1 a.2.2.1 a.2.2.2.1))
noncomputable def spec85 : Fs U := fs args85 (fun a => [pre85 a]) res85
def args62 : ArgL (Option Arena × Int × Int × Unit) := (.cons (aPo .arena) (.cons (aInt .i64) (.cons (aInt .i64) .nil)))
def pre62 (a : Option Arena × Int × Int × Unit) : Prop := okA a.1
noncomputable def res62 (a : Option Arena × Int × Int × Unit) : V U := .tup [(false, [.int .u64 (if hasN (segO a.1) a.2.1 a.2.2.1 1 then getS (segO a.1) a.2.1 a.2.2.1 else 0)]), (false, [.bool (hasN (segO a.1) a.2.1 a.2.2.1 1)])]
noncomputable def spec62 : Fs U := fs args62 (fun a => [pre62 a]) res62
def args60 : ArgL (List Int × Unit) := (.cons (aSl .u64) .nil)
def pre60 (a : List Int × Unit) : Prop := a.1.length ≤ 17592186044416
noncomputable def res60 (a : List Int × Unit) : V U := .c (.slice (U := U) .u64 a.1 .unk)
noncomputable def spec60 : Fs U := fs args60 (fun a => [pre60 a]) res60
def args114 : ArgL (Option Arena × Int × Int × Int × Unit) := (.cons (aPo .arena) (.cons (aInt .i64) (.cons (aInt .i64) (.cons (aInt .i64) .nil))))
def pre114 (a : Option Arena × Int × Int × Int × Unit) : Prop := okA a.1
noncomputable def res114 (a : Option Arena × Int × Int × Int × Unit) : V U := .tup [(false, [.slice (U := U) .u64 (if hasN (segO a.1) a.2.1 a.2.2.1 a.2.2.2.1 then partS (segO a.1) a.2.1 a.2.2.1 a.2.2.2.1 else []) .unk]), (false, [.bool (hasN (segO a.1) a.2.1 a.2.2.1 a.2.2.2.1)])]
noncomputable def spec114 : Fs U := fs args114 (fun a => [pre114 a]) res114
def args20 : ArgL (List (List Int) × Unit) := (.cons (aSl .words) .nil)
def pre20 (a : List (List Int) × Unit) : Prop := okSeg a.1
noncomputable def res20 (a : List (List Int) × Unit) : V U := .c (.po (U := U) .arena (some (Arena.mk a.1 0 0 0)))
noncomputable def spec20 : Fs U := fs args20 (fun a => [pre20 a]) res20
noncomputable def know112 : List (FuncId × Fs U) := []
def lv112 : Lives U := fun i => match i with
  | 0 => ([(0, [])], [])
  | 1 => ([(0, []), (4, [])], [])
  | 2 => ([(2, [])], [])
  | 3 => ([(2, [])], [])
  | _ => ([], [])
noncomputable abbrev A112 (p : List Nat) := awp cfg (know know112) (drawOk cfg (know know112)) Try.f112.ntmps lv112 (cd Try.f112 p)
theorem vc112 (a : Option Arena) (Q : AExit → LSt U → Prop) (h : ((((Option.isNone a) = true → (Q .ret (⟨[(2, .c (.int .i64 0))], [], []⟩ : LSt U))) ∧ ((Option.isNone a) = false → (Option.isSome a = true) ∧ (Option.isSome a = true) ∧ (Q .ret (⟨[(2, .c (.int .i64 ((Arena.segs (Option.getD a (Arena.mk [] 0 0 0))).length : Int)))], [], []⟩ : LSt U)))))) :
    A112 [] (⟨[(0, .c (.po (U := U) .arena a))], [], []⟩ : LSt U) Q :=
  Eq.mpr (by kernel_rfl) h
def Body112 (a : Option Arena)  : Prop := awp cfg (know (know112)) (drawOk cfg (know (know112))) Try.f112.ntmps lv112 (cd Try.f112 []) (entry (args112.can (a, ())) []) (EndsQ cfg Try.f112.ntmps Try.f112.results.toList (res112 (a, ())) [])
theorem make112 (hb : ∀ (a : Option Arena) (_ : Unit), pre112 (a, ()) → Body112 a) : Contract Try.prog cfg 112 spec112 :=
  contract_flat (l := []) cfgOk rfl (trivial) lv112 Try.func112 rfl rfl 1 (fun _ => rfl) (by decide) (fun ⟨a, _⟩ => hb a ())
noncomputable def know111 : List (FuncId × Fs U) := [(112, spec112)]
def lv111 : Lives U := fun i => match i with
  | 0 => ([(0, []), (1, [])], [])
  | 1 => ([(0, []), (1, []), (12, [])], [])
  | 2 => ([(4, [])], [])
  | 3 => ([(4, [])], [])
  | _ => ([], [])
noncomputable abbrev A111 (p : List Nat) := awp cfg (know know111) (drawOk cfg (know know111)) Try.f111.ntmps lv111 (cd Try.f111 p)
theorem vc111 (a : Option Arena) (s : Int) (Q : AExit → LSt U → Prop) (h : ((Tr ((!(decide ((s : Int) < 0))) = true)) ∧ ((!(decide ((s : Int) < 0))) = true → pre112 (a, ())) ∧ (Tr ((!(decide ((s : Int) < 0))) = true)) ∧ (Tr ((!(decide ((s : Int) < 0))) = true)) ∧ (((decide ((s : Int) < 0)) = false → (!(decide ((s : Int) < 0))) = true)) ∧ (((bif (decide ((s : Int) < 0)) then true else (decide ((((segO a).length : Int) : Int) ≤ s))) = true → (Q .ret (⟨[(4, .c (.int .i64 0))], [], []⟩ : LSt U))) ∧ ((bif (decide ((s : Int) < 0)) then true else (decide ((((segO a).length : Int) : Int) ≤ s))) = false → (Option.isSome a = true) ∧ (Option.isSome a = true) ∧ ((0 : Int) ≤ s ∧ s < ((Arena.segs (Option.getD a (Arena.mk [] 0 0 0))).length : Int)) ∧ (Q .ret (⟨[(4, .c (.int .i64 ((List.getD (Arena.segs (Option.getD a (Arena.mk [] 0 0 0))) (Int.toNat s) ([] : List Int)).length : Int)))], [], []⟩ : LSt U)))))) :
    A111 [] (⟨[(0, .c (.po (U := U) .arena a)), (1, .c (.int .i64 s))], [], []⟩ : LSt U) Q :=
  Eq.mpr (by kernel_rfl) h
def Body111 (a : Option Arena) (s : Int)  : Prop := awp cfg (know (know111)) (drawOk cfg (know (know111))) Try.f111.ntmps lv111 (cd Try.f111 []) (entry (args111.can (a, s, ())) []) (EndsQ cfg Try.f111.ntmps Try.f111.results.toList (res111 (a, s, ())) [])
theorem make111 (c112 : Contract Try.prog cfg 112 spec112) (hb : ∀ (a : Option Arena) (s : Int) (_ : Unit), pre111 (a, s, ()) → Body111 a s) : Contract Try.prog cfg 111 spec111 :=
  contract_flat (l := [(112, spec112)]) cfgOk rfl (⟨c112, trivial⟩) lv111 Try.func111 rfl rfl 2 (fun _ => rfl) (by decide) (fun ⟨a, s, _⟩ => hb a s ())
noncomputable def know85 : List (FuncId × Fs U) := [(112, spec112), (111, spec111)]
def lv85 : Lives U := fun i => match i with
  | 0 => ([(0, []), (1, []), (2, []), (3, [])], [])
  | 1 => ([(0, []), (1, []), (2, []), (3, []), (9, [])], [])
  | 2 => ([(8, [])], [])
  | _ => ([], [])
noncomputable abbrev A85 (p : List Nat) := awp cfg (know know85) (drawOk cfg (know know85)) Try.f85.ntmps lv85 (cd Try.f85 p)
theorem vc85 (a : Option Arena) (s : Int) (at_ : Int) (n : Int) (Q : AExit → LSt U → Prop) (h : ((pre111 (a, s, ())) ∧ ((Tr ((decide ((0 : Int) ≤ s)) = true)) ∧ ((decide ((0 : Int) ≤ s)) = true → pre112 (a, ())) ∧ (Tr ((decide ((0 : Int) ≤ s)) = true)) ∧ (Tr ((decide ((0 : Int) ≤ s)) = true)) ∧ ((Tr ((decide ((0 : Int) ≤ s)) = true))) ∧ (Tr ((bif (decide ((0 : Int) ≤ s)) then (decide ((s : Int) < ((segO a).length : Int))) else false) = true)) ∧ ((Tr ((bif (decide ((0 : Int) ≤ s)) then (decide ((s : Int) < ((segO a).length : Int))) else false) = true))) ∧ (Tr ((bif (bif (decide ((0 : Int) ≤ s)) then (decide ((s : Int) < ((segO a).length : Int))) else false) then (decide ((0 : Int) ≤ at_)) else false) = true)) ∧ ((Tr ((bif (bif (decide ((0 : Int) ≤ s)) then (decide ((s : Int) < ((segO a).length : Int))) else false) then (decide ((0 : Int) ≤ at_)) else false) = true))) ∧ (Tr ((bif (bif (bif (decide ((0 : Int) ≤ s)) then (decide ((s : Int) < ((segO a).length : Int))) else false) then (decide ((0 : Int) ≤ at_)) else false) then (decide ((0 : Int) ≤ n)) else false) = true)) ∧ (Tr ((bif (bif (bif (decide ((0 : Int) ≤ s)) then (decide ((s : Int) < ((segO a).length : Int))) else false) then (decide ((0 : Int) ≤ at_)) else false) then (decide ((0 : Int) ≤ n)) else false) = true)) ∧ ((Tr ((bif (bif (bif (decide ((0 : Int) ≤ s)) then (decide ((s : Int) < ((segO a).length : Int))) else false) then (decide ((0 : Int) ≤ at_)) else false) then (decide ((0 : Int) ≤ n)) else false) = true))) ∧ (Tr ((bif (bif (bif (bif (decide ((0 : Int) ≤ s)) then (decide ((s : Int) < ((segO a).length : Int))) else false) then (decide ((0 : Int) ≤ at_)) else false) then (decide ((0 : Int) ≤ n)) else false) then (decide ((n : Int) ≤ ((segAt (segO a) s).length : Int))) else false) = true)) ∧ (Tr ((bif (bif (bif (bif (decide ((0 : Int) ≤ s)) then (decide ((s : Int) < ((segO a).length : Int))) else false) then (decide ((0 : Int) ≤ at_)) else false) then (decide ((0 : Int) ≤ n)) else false) then (decide ((n : Int) ≤ ((segAt (segO a) s).length : Int))) else false) = true)) ∧ ((bif (bif (bif (bif (decide ((0 : Int) ≤ s)) then (decide ((s : Int) < ((segO a).length : Int))) else false) then (decide ((0 : Int) ≤ at_)) else false) then (decide ((0 : Int) ≤ n)) else false) then (decide ((n : Int) ≤ ((segAt (segO a) s).length : Int))) else false) = true → InR ((((segAt (segO a) s).length : Int) : Int) - n)) ∧ (Tr ((bif (bif (bif (bif (decide ((0 : Int) ≤ s)) then (decide ((s : Int) < ((segO a).length : Int))) else false) then (decide ((0 : Int) ≤ at_)) else false) then (decide ((0 : Int) ≤ n)) else false) then (decide ((n : Int) ≤ ((segAt (segO a) s).length : Int))) else false) = true)) ∧ (Tr ((bif (bif (bif (bif (decide ((0 : Int) ≤ s)) then (decide ((s : Int) < ((segO a).length : Int))) else false) then (decide ((0 : Int) ≤ at_)) else false) then (decide ((0 : Int) ≤ n)) else false) then (decide ((n : Int) ≤ ((segAt (segO a) s).length : Int))) else false) = true)) ∧ ((Tr ((bif (bif (bif (bif (decide ((0 : Int) ≤ s)) then (decide ((s : Int) < ((segO a).length : Int))) else false) then (decide ((0 : Int) ≤ at_)) else false) then (decide ((0 : Int) ≤ n)) else false) then (decide ((n : Int) ≤ ((segAt (segO a) s).length : Int))) else false) = true))) ∧ (Q .ret (⟨[(8, .c (.bool (bif (bif (bif (bif (bif (decide ((0 : Int) ≤ s)) then (decide ((s : Int) < ((segO a).length : Int))) else false) then (decide ((0 : Int) ≤ at_)) else false) then (decide ((0 : Int) ≤ n)) else false) then (decide ((n : Int) ≤ ((segAt (segO a) s).length : Int))) else false) then (decide ((at_ : Int) ≤ ((((segAt (segO a) s).length : Int) : Int) - n))) else false)))], [], []⟩ : LSt U))))) :
    A85 [] (⟨[(0, .c (.po (U := U) .arena a)), (1, .c (.int .i64 s)), (2, .c (.int .i64 at_)), (3, .c (.int .i64 n))], [], []⟩ : LSt U) Q :=
  Eq.mpr (by kernel_rfl) h
def Body85 (a : Option Arena) (s : Int) (at_ : Int) (n : Int)  : Prop := awp cfg (know (know85)) (drawOk cfg (know (know85))) Try.f85.ntmps lv85 (cd Try.f85 []) (entry (args85.can (a, s, at_, n, ())) []) (EndsQ cfg Try.f85.ntmps Try.f85.results.toList (res85 (a, s, at_, n, ())) [])
theorem make85 (c112 : Contract Try.prog cfg 112 spec112) (c111 : Contract Try.prog cfg 111 spec111) (hb : ∀ (a : Option Arena) (s : Int) (at_ : Int) (n : Int) (_ : Unit), pre85 (a, s, at_, n, ()) → Body85 a s at_ n) : Contract Try.prog cfg 85 spec85 :=
  contract_flat (l := [(112, spec112), (111, spec111)]) cfgOk rfl (⟨c112, c111, trivial⟩) lv85 Try.func85 rfl rfl 4 (fun _ => rfl) (by decide) (fun ⟨a, s, at_, n, _⟩ => hb a s at_ n ())
noncomputable def know62 : List (FuncId × Fs U) := [(85, spec85)]
def lv62 : Lives U := fun i => match i with
  | 0 => ([(0, []), (1, []), (2, [])], [])
  | 1 => ([(0, []), (1, []), (2, []), (12, [])], [])
  | 2 => ([(6, []), (7, [])], [])
  | 3 => ([(6, []), (7, [])], [])
  | _ => ([], [])
noncomputable abbrev A62 (p : List Nat) := awp cfg (know know62) (drawOk cfg (know know62)) Try.f62.ntmps lv62 (cd Try.f62 p)
theorem vc62 (a : Option Arena) (s : Int) (at_ : Int) (Q : AExit → LSt U → Prop) (h : ((pre85 (a, s, at_, 1, ())) ∧ (((!(hasN (segO a) s at_ 1)) = true → (Q .ret (⟨[(6, .c (.int .u64 0)), (7, .c (.bool false))], [], []⟩ : LSt U))) ∧ ((!(hasN (segO a) s at_ 1)) = false → (Option.isSome a = true) ∧ (Option.isSome a = true) ∧ ((0 : Int) ≤ s ∧ s < ((Arena.segs (Option.getD a (Arena.mk [] 0 0 0))).length : Int)) ∧ ((0 : Int) ≤ at_ ∧ at_ < ((List.getD (Arena.segs (Option.getD a (Arena.mk [] 0 0 0))) (Int.toNat s) ([] : List Int)).length : Int)) ∧ (Q .ret (⟨[(6, .c (.int .u64 (List.getD (List.getD (Arena.segs (Option.getD a (Arena.mk [] 0 0 0))) (Int.toNat s) ([] : List Int)) (Int.toNat at_) (0 : Int)))), (7, .c (.bool true))], [], []⟩ : LSt U)))))) :
    A62 [] (⟨[(0, .c (.po (U := U) .arena a)), (1, .c (.int .i64 s)), (2, .c (.int .i64 at_))], [], []⟩ : LSt U) Q :=
  Eq.mpr (by kernel_rfl) h
def Body62 (a : Option Arena) (s : Int) (at_ : Int)  : Prop := awp cfg (know (know62)) (drawOk cfg (know (know62))) Try.f62.ntmps lv62 (cd Try.f62 []) (entry (args62.can (a, s, at_, ())) []) (EndsQ cfg Try.f62.ntmps Try.f62.results.toList (res62 (a, s, at_, ())) [])
theorem make62 (c85 : Contract Try.prog cfg 85 spec85) (hb : ∀ (a : Option Arena) (s : Int) (at_ : Int) (_ : Unit), pre62 (a, s, at_, ()) → Body62 a s at_) : Contract Try.prog cfg 62 spec62 :=
  contract_flat (l := [(85, spec85)]) cfgOk rfl (⟨c85, trivial⟩) lv62 Try.func62 rfl rfl 3 (fun _ => rfl) (by decide) (fun ⟨a, s, at_, _⟩ => hb a s at_ ())
noncomputable def know60 : List (FuncId × Fs U) := []
def lv60 : Lives U := fun i => match i with
  | 0 => ([(0, [])], [])
  | 1 => ([(0, []), (4, [])], [])
  | 2 => ([(2, [])], [])
  | 3 => ([(2, [])], [])
  | _ => ([], [])
noncomputable abbrev A60 (p : List Nat) := awp cfg (know know60) (drawOk cfg (know know60)) Try.f60.ntmps lv60 (cd Try.f60 p)
theorem vc60 (l : List Int) (Q : AExit → LSt U → Prop) (h : ((((l = []) → (Q .ret (⟨[(2, .c (.nils))], [], []⟩ : LSt U))) ∧ ((True) → ((([] : List Int).length + l.length) * 8 ≤ 140737488355328) ∧ (Q .ret (⟨[(2, .c (.slice (U := U) .u64 (([] : List Int) ++ l) (.own (.e 2 0))))], [], []⟩ : LSt U)))))) :
    A60 [] (⟨[(0, .c (.slice (U := U) .u64 l .unk))], [], []⟩ : LSt U) Q :=
  Eq.mpr (by kernel_rfl) h
def Body60 (l : List Int)  : Prop := awp cfg (know (know60)) (drawOk cfg (know (know60))) Try.f60.ntmps lv60 (cd Try.f60 []) (entry (args60.can (l, ())) []) (EndsQ cfg Try.f60.ntmps Try.f60.results.toList (res60 (l, ())) [])
theorem make60 (hb : ∀ (l : List Int) (_ : Unit), pre60 (l, ()) → Body60 l) : Contract Try.prog cfg 60 spec60 :=
  contract_flat (l := []) cfgOk rfl (trivial) lv60 Try.func60 rfl rfl 1 (fun _ => rfl) (by decide) (fun ⟨l, _⟩ => hb l ())
noncomputable def know114 : List (FuncId × Fs U) := [(85, spec85), (60, spec60)]
def lv114 : Lives U := fun i => match i with
  | 0 => ([(0, []), (1, []), (2, []), (3, [])], [])
  | 1 => ([(0, []), (1, []), (2, []), (3, []), (15, [])], [])
  | 2 => ([(8, []), (9, [])], [])
  | 3 => ([(8, []), (9, [])], [])
  | _ => ([], [])
noncomputable abbrev A114 (p : List Nat) := awp cfg (know know114) (drawOk cfg (know know114)) Try.f114.ntmps lv114 (cd Try.f114 p)
theorem vc114 (a : Option Arena) (s : Int) (at_ : Int) (n : Int) (Q : AExit → LSt U → Prop) (h : ((pre85 (a, s, at_, n, ())) ∧ (((!(hasN (segO a) s at_ n)) = true → (Q .ret (⟨[(8, .c (.nils)), (9, .c (.bool false))], [], []⟩ : LSt U))) ∧ ((!(hasN (segO a) s at_ n)) = false → (Option.isSome a = true) ∧ (Option.isSome a = true) ∧ ((0 : Int) ≤ s ∧ s < ((Arena.segs (Option.getD a (Arena.mk [] 0 0 0))).length : Int)) ∧ (InR ((at_ : Int) + n)) ∧ ((0 : Int) ≤ at_ ∧ at_ ≤ ((at_ : Int) + n) ∧ ((at_ : Int) + n) ≤ ((List.getD (Arena.segs (Option.getD a (Arena.mk [] 0 0 0))) (Int.toNat s) ([] : List Int)).length : Int)) ∧ (pre60 ((List.drop (Int.toNat at_) (List.take (Int.toNat ((at_ : Int) + n)) (List.getD (Arena.segs (Option.getD a (Arena.mk [] 0 0 0))) (Int.toNat s) ([] : List Int)))), ())) ∧ (Q .ret (⟨[(8, .c (.slice (U := U) .u64 (List.drop (Int.toNat at_) (List.take (Int.toNat ((at_ : Int) + n)) (List.getD (Arena.segs (Option.getD a (Arena.mk [] 0 0 0))) (Int.toNat s) ([] : List Int)))) .unk)), (9, .c (.bool true))], [], []⟩ : LSt U)))))) :
    A114 [] (⟨[(0, .c (.po (U := U) .arena a)), (1, .c (.int .i64 s)), (2, .c (.int .i64 at_)), (3, .c (.int .i64 n))], [], []⟩ : LSt U) Q :=
  Eq.mpr (by kernel_rfl) h
def Body114 (a : Option Arena) (s : Int) (at_ : Int) (n : Int)  : Prop := awp cfg (know (know114)) (drawOk cfg (know (know114))) Try.f114.ntmps lv114 (cd Try.f114 []) (entry (args114.can (a, s, at_, n, ())) []) (EndsQ cfg Try.f114.ntmps Try.f114.results.toList (res114 (a, s, at_, n, ())) [])
theorem make114 (c85 : Contract Try.prog cfg 85 spec85) (c60 : Contract Try.prog cfg 60 spec60) (hb : ∀ (a : Option Arena) (s : Int) (at_ : Int) (n : Int) (_ : Unit), pre114 (a, s, at_, n, ()) → Body114 a s at_ n) : Contract Try.prog cfg 114 spec114 :=
  contract_flat (l := [(85, spec85), (60, spec60)]) cfgOk rfl (⟨c85, c60, trivial⟩) lv114 Try.func114 rfl rfl 4 (fun _ => rfl) (by decide) (fun ⟨a, s, at_, n, _⟩ => hb a s at_ n ())
noncomputable def know20 : List (FuncId × Fs U) := [(60, spec60)]
def lv20 : Lives U := fun i => match i with
  | 0 => ([(0, [])], [])
  | 1 => ([(0, []), (3, [])], [((.loc 7), [])])
  | 2 => ([(3, []), (8, []), (9, []), (10, [])], [((.loc 7), [.own .words])])
  | 3 => ([(3, []), (8, []), (9, []), (10, []), (11, [])], [((.loc 7), [])])
  | 4 => ([(3, []), (5, []), (8, []), (9, []), (10, [])], [((.loc 7), [])])
  | 5 => ([(3, []), (8, []), (9, []), (10, [])], [((.loc 7), [])])
  | 6 => ([(3, []), (8, []), (9, []), (10, [])], [((.loc 7), [.own .words])])
  | 7 => ([(2, [.pt .arena])], [((.loc 7), [])])
  | _ => ([], [])
noncomputable def head20_0 (l : List (List Int)) (x10 : Int) (ml7_0 : List (List Int)) : LSt U := (⟨[(3, .ptr (.loc 7) 0), (8, .c (.slice (U := U) .words l .unk)), (9, .c (.int .i64 (l.length : Int))), (10, .c (.int .i64 x10))], [((.loc 7), [.slice (U := U) .words ml7_0 (.own (.l 7 0)), .int .i64 0, .int .i64 0, .int .i64 0])], []⟩ : LSt U)
noncomputable abbrev A20 (p : List Nat) := awp cfg (know know20) (drawOk cfg (know know20)) Try.f20.ntmps lv20 (cd Try.f20 p)
noncomputable abbrev S20 (p : List Nat) := seqK cfg (know know20) (drawOk cfg (know know20)) Try.f20.ntmps lv20 (cd Try.f20 p)
theorem vc20 (l : List (List Int)) (Q : AExit → LSt U → Prop) (h : (((LoopWp (A20 [1, 1, 0, 1, 0, 0]) (head20_0 l 0 ([])) (AExit.inBlock 0 (S20 [1, 1, 1] Q)))))) :
    A20 [] (⟨[(0, .c (.slice (U := U) .words l .unk))], [], []⟩ : LSt U) Q :=
  Eq.mpr (by kernel_rfl) h
theorem vc20_l0 (l : List (List Int)) (x10 : Int) (ml7_0 : List (List Int)) (N0 : LSt U → Prop) (Q : AExit → LSt U → Prop) (h : (((decide ((x10 : Int) < (l.length : Int))) = true → ((0 : Int) ≤ x10 ∧ x10 < (l.length : Int)) ∧ ((pre60 ((List.getD l (Int.toNat x10) ([] : List Int)), ())) ∧ ((ml7_0.length + ([(List.getD l (Int.toNat x10) ([] : List Int))]).length) * 24 ≤ 140737488355328) ∧ ((InR ((x10 : Int) + 1)) ∧ (N0 (head20_0 l ((x10 : Int) + 1) (ml7_0 ++ ([(List.getD l (Int.toNat x10) ([] : List Int))]))))))) ∧ ((decide ((x10 : Int) < (l.length : Int))) = false → (Q .ret (⟨[(2, .c (.po (U := U) .arena (some (Arena.mk ml7_0 0 0 0))))], [], []⟩ : LSt U))))) :
    A20 [1, 1, 0, 1, 0, 0] (head20_0 l x10 ml7_0) (AExit.then N0 (AExit.inBlock 0 (S20 [1, 1, 1] Q))) :=
  Eq.mpr (by kernel_rfl) h
def Body20 (l : List (List Int))  : Prop := awp cfg (know (know20)) (drawOk cfg (know (know20))) Try.f20.ntmps lv20 (cd Try.f20 []) (entry (args20.can (l, ())) []) (EndsQ cfg Try.f20.ntmps Try.f20.results.toList (res20 (l, ())) [])
theorem make20 (c60 : Contract Try.prog cfg 60 spec60) (hb : ∀ (l : List (List Int)) (_ : Unit), pre20 (l, ()) → Body20 l) : Contract Try.prog cfg 20 spec20 :=
  contract_flat (l := [(60, spec60)]) cfgOk rfl (⟨c60, trivial⟩) lv20 Try.func20 rfl rfl 1 (fun _ => rfl) (by decide) (fun ⟨l, _⟩ => hb l ())
end Go.AM.Ythokdjgpdonhgaa

namespace Go.AM.Ythokdjgpdonhgaa
open Go.AM Go.Proofs
theorem segO_some {a : Option Arena} (h : a.isSome = true) : (a.getD (Arena.mk [] 0 0 0)).segs = segO a := by
  cases a with
  | none => cases h
  | some x => rfl
theorem c112 : Contract Try.prog cfg 112 spec112 := by
  refine make112 ?_
  intro a _ hp
  refine vc112 _ _ ?_
  (simp only [vcT, vcS])
  refine ⟨fun h => ends_int rfl ?_, fun h => ?_⟩
  · show (0 : Int) = ((segO a).length : Int)
    cases a with
    | none => rfl
    | some x => cases h
  · have hs : a.isSome = true := by
      cases a with
      | none => cases h
      | some x => rfl
    refine ⟨hs, hs, ends_int rfl ?_⟩
    rw [segO_some hs]
theorem some_of_len {a : Option Arena} {s : Int} (h0 : 0 ≤ s) (h : s < ((segO a).length : Int)) : a.isSome = true := by
  cases a with
  | none => simp [segO] at h; omega
  | some x => rfl
theorem segAt_in {l : List (List Int)} {s : Int} (h : 0 ≤ s) : segAt l s = l.getD s.toNat [] := by unfold segAt; rw [if_neg (by omega)]
theorem segAt_out {l : List (List Int)} {s : Int} (h : s < 0 ∨ (l.length : Int) ≤ s) : segAt l s = [] := by
  unfold segAt
  split
  · rfl
  · rw [List.getD_eq_getElem?_getD, List.getElem?_eq_none (by omega)]; rfl
theorem c111 : Contract Try.prog cfg 111 spec111 := by
  refine make111 c112 ?_
  intro a s _ hp
  refine vc111 _ _ _ ?_
  (simp only [vcT, vcS])
  refine ⟨fun _ => hp, fun h => ends_int rfl ?_, fun h => ?_⟩
  · show (0 : Int) = ((segAt (segO a) s).length : Int)
    rw [segAt_out h]; rfl
  · have hs := some_of_len (a := a) (s := s) (by omega) (by omega)
    rw [segO_some hs]
    refine ⟨hs, hs, by omega, ends_int rfl ?_⟩
    show _ = ((segAt (segO a) s).length : Int)
    rw [segAt_in (by omega)]
theorem c85 : Contract Try.prog cfg 85 spec85 := by
  refine make85 c112 c111 ?_
  intro a s x n _ hp
  refine vc85 _ _ _ _ _ ?_
  have hl := (okSeg_at hp s).1
  (simp only [vcT, vcS])
  refine ⟨hp, fun _ => hp, fun h => by dsimp only at hl; ((unfold InR; omega)), ends_bool rfl ?_⟩
  rw [Bool.eq_iff_iff]
  show _ ↔ hasN (segO a) s x n = true
  rw [hasN_iff]
  (simp only [vcT, vcS])
  omega
theorem c62 : Contract Try.prog cfg 62 spec62 := by
  refine make62 c85 ?_
  intro a s x _ hp
  refine vc62 _ _ _ _ ?_
  (simp only [vcT, vcS])
  refine ⟨hp, fun h => ?_, fun h => ?_⟩
  · refine ends_eq (r' := .tup [(false, [.int .u64 0]), (false, [.bool false])]) ?_ (by (repeat' (first | exact trivial | exact rfl | apply And.intro)))
    simp only [res62, h]; rfl
  · have hh := hasN_iff.1 h
    have hs := some_of_len (a := a) (s := s) hh.1 hh.2.1
    rw [segO_some hs, ← segAt_in hh.1]
    refine ⟨hs, hs, by omega, by omega, ?_⟩
    refine ends_eq (r' := .tup [(false, [.int .u64 (getS (segO a) s x)]), (false, [.bool true])]) ?_ (by (repeat' (first | exact trivial | exact rfl | apply And.intro)))
    simp only [res62, h]; rfl
theorem c60 : Contract Try.prog cfg 60 spec60 := by
  refine make60 ?_
  intro l _ hp
  simp only [pre60] at hp
  refine vc60 _ _ ?_
  (simp only [vcT, vcS])
  refine ⟨fun h => ?_, by simp; omega, ?_⟩
  · subst h; (repeat' (first | exact trivial | exact rfl | apply And.intro))
  · rw [List.nil_append]; (repeat' (first | exact trivial | exact rfl | apply And.intro))
theorem c114 : Contract Try.prog cfg 114 spec114 := by
  refine make114 c85 c60 ?_
  intro a s x n _ hp
  refine vc114 _ _ _ _ _ ?_
  (simp only [vcT, vcS])
  refine ⟨hp, fun h => ?_, fun h => ?_⟩
  · refine ends_eq (r' := .tup [(false, [.slice (U := U) .u64 [] .unk]), (false, [.bool false])]) ?_ (by (repeat' (first | exact trivial | exact rfl | apply And.intro)))
    simp only [res114, h]; rfl
  · have hh := hasN_iff.1 h
    have hl := (okSeg_at hp s).1
    dsimp only at hl
    have hs := some_of_len (a := a) (s := s) hh.1 hh.2.1
    rw [segO_some hs, ← segAt_in hh.1]
    refine ⟨hs, hs, by omega, by ((unfold InR; omega)), by omega, ?_, ?_⟩
    · show (List.drop _ (List.take _ _)).length ≤ _
      simp; omega
    · refine ends_eq (r' := .tup [(false, [.slice (U := U) .u64 (partS (segO a) s x n) .unk]), (false, [.bool true])]) ?_ ?_
      · simp only [res114, h]; rfl
      · rw [show partS (segO a) s x n = List.drop x.toNat (List.take (x + n).toNat (segAt (segO a) s)) by
          unfold partS; rw [List.drop_take, show (x + n).toNat - x.toNat = n.toNat by omega]]
        (repeat' (first | exact trivial | exact rfl | apply And.intro))
theorem c20 : Contract Try.prog cfg 20 spec20 := by
  refine make20 c60 ?_
  intro l _ hp
  simp only [pre20] at hp
  have hl := hp.1
  refine vc20 _ _ ?_
  refine loop_rule (ι := Int × List (List Int)) (fun p => head20_0 l p.1 p.2) (fun p => 0 ≤ p.1 ∧ p.1 ≤ l.length ∧ p.2.length = p.1 ∧ p.2 ++ l.drop p.1.toNat = l) (fun p => (l.length - p.1).toNat) (0, []) rfl ⟨by simp, by dsimp only; omega, by simp, by simp⟩ ?_
  rintro ⟨i, o⟩ ⟨h1, h2, h3, h4⟩
  dsimp only at h1 h2 h3 h4
  refine vc20_l0 _ _ _ _ _ ?_
  (simp only [vcT, vcS])
  refine ⟨fun hi => ?_, fun hi => ?_⟩
  · have hm := hp.2 _ (mem_getD (l := l) (i := i.toNat) (by omega) [])
    refine ⟨by omega, hm.1, by simp; omega, by ((unfold InR; omega)), (i + 1, o ++ [l.getD i.toNat []]), rfl, ⟨by dsimp only; omega, by dsimp only; omega, by simp; omega, ?_⟩, by dsimp only; omega⟩
    dsimp only
    rw [List.append_assoc, List.singleton_append, ← dropI h1 hi [], h4]
  · rw [List.drop_of_length_le (by omega), List.append_nil] at h4
    subst h4
    (repeat' (first | exact trivial | exact rfl | apply And.intro))
end Go.AM.Ythokdjgpdonhgaa

namespace Go.AM.Ythokdjgpdonhgaa
open Go.AM Go.Proofs
def args113 : ArgL (Option Arena × Loc × Unit) := (.cons (aPo .arena) (.cons (aEl .loc) .nil))
def pre113 (a : Option Arena × Loc × Unit) : Prop := okA a.1 ∧ OkP (Loc.p a.2.1) ∧ (((Loc.p a.2.1).kind = 1) ∨ ((Loc.p a.2.1).kind = 2))
noncomputable def res113 (a : Option Arena × Loc × Unit) : V U := .tup [(true, [.int .i64 (Ptr.kind (Loc.p ((insideL (segO a.1) a.2.1).1))), .int .i64 (Ptr.off (Loc.p ((insideL (segO a.1) a.2.1).1))), .int .i64 (Ptr.data (Loc.p ((insideL (segO a.1) a.2.1).1))), .int .i64 (Ptr.ptrs (Loc.p ((insideL (segO a.1) a.2.1).1))), .int .i64 (Ptr.code (Loc.p ((insideL (segO a.1) a.2.1).1))), .int .i64 (Ptr.count (Loc.p ((insideL (segO a.1) a.2.1).1))), .int .i64 (Ptr.segment (Loc.p ((insideL (segO a.1) a.2.1).1))), .bool (Ptr.double (Loc.p ((insideL (segO a.1) a.2.1).1))), .int .i64 (Loc.segment ((insideL (segO a.1) a.2.1).1)), .int .i64 (Loc.at_ ((insideL (segO a.1) a.2.1).1))]), (false, [.int .i64 ((insideL (segO a.1) a.2.1).2)])]
noncomputable def spec113 : Fs U := fs args113 (fun a => [pre113 a]) res113
def args87 : ArgL (Option Arena × Ptr × Int × Int × Unit) := (.cons (aPo .arena) (.cons (aEl .ptr) (.cons (aInt .i64) (.cons (aInt .i64) .nil))))
def pre87 (a : Option Arena × Ptr × Int × Int × Unit) : Prop := okA a.1 ∧ OkP a.2.1 ∧ 0 ≤ a.2.2.2.1 ∧ a.2.2.2.1 ≤ 17592186044416
noncomputable def res87 (a : Option Arena × Ptr × Int × Int × Unit) : V U := .tup [(true, [.int .i64 (Ptr.kind (Loc.p ((nearL (segO a.1) a.2.1 a.2.2.1 a.2.2.2.1).1))), .int .i64 (Ptr.off (Loc.p ((nearL (segO a.1) a.2.1 a.2.2.1 a.2.2.2.1).1))), .int .i64 (Ptr.data (Loc.p ((nearL (segO a.1) a.2.1 a.2.2.1 a.2.2.2.1).1))), .int .i64 (Ptr.ptrs (Loc.p ((nearL (segO a.1) a.2.1 a.2.2.1 a.2.2.2.1).1))), .int .i64 (Ptr.code (Loc.p ((nearL (segO a.1) a.2.1 a.2.2.1 a.2.2.2.1).1))), .int .i64 (Ptr.count (Loc.p ((nearL (segO a.1) a.2.1 a.2.2.1 a.2.2.2.1).1))), .int .i64 (Ptr.segment (Loc.p ((nearL (segO a.1) a.2.1 a.2.2.1 a.2.2.2.1).1))), .bool (Ptr.double (Loc.p ((nearL (segO a.1) a.2.1 a.2.2.1 a.2.2.2.1).1))), .int .i64 (Loc.segment ((nearL (segO a.1) a.2.1 a.2.2.1 a.2.2.2.1).1)), .int .i64 (Loc.at_ ((nearL (segO a.1) a.2.1 a.2.2.1 a.2.2.2.1).1))]), (false, [.int .i64 ((nearL (segO a.1) a.2.1 a.2.2.1 a.2.2.2.1).2)])]
noncomputable def spec87 : Fs U := fs args87 (fun a => [pre87 a]) res87
def args88 : ArgL (Option Arena × Int × Int × Unit) := (.cons (aPo .arena) (.cons (aInt .i64) (.cons (aInt .i64) .nil)))
def pre88 (a : Option Arena × Int × Int × Unit) : Prop := okA a.1
noncomputable def res88 (a : Option Arena × Int × Int × Unit) : V U := .tup [(true, [.int .i64 (Ptr.kind (Loc.p ((doubleL (segO a.1) a.2.1 a.2.2.1).1))), .int .i64 (Ptr.off (Loc.p ((doubleL (segO a.1) a.2.1 a.2.2.1).1))), .int .i64 (Ptr.data (Loc.p ((doubleL (segO a.1) a.2.1 a.2.2.1).1))), .int .i64 (Ptr.ptrs (Loc.p ((doubleL (segO a.1) a.2.1 a.2.2.1).1))), .int .i64 (Ptr.code (Loc.p ((doubleL (segO a.1) a.2.1 a.2.2.1).1))), .int .i64 (Ptr.count (Loc.p ((doubleL (segO a.1) a.2.1 a.2.2.1).1))), .int .i64 (Ptr.segment (Loc.p ((doubleL (segO a.1) a.2.1 a.2.2.1).1))), .bool (Ptr.double (Loc.p ((doubleL (segO a.1) a.2.1 a.2.2.1).1))), .int .i64 (Loc.segment ((doubleL (segO a.1) a.2.1 a.2.2.1).1)), .int .i64 (Loc.at_ ((doubleL (segO a.1) a.2.1 a.2.2.1).1))]), (false, [.int .i64 ((doubleL (segO a.1) a.2.1 a.2.2.1).2)])]
noncomputable def spec88 : Fs U := fs args88 (fun a => [pre88 a]) res88
def args63 : ArgL (Option Arena × Int × Int × Unit) := (.cons (aPo .arena) (.cons (aInt .i64) (.cons (aInt .i64) .nil)))
def pre63 (a : Option Arena × Int × Int × Unit) : Prop := okA a.1
noncomputable def res63 (a : Option Arena × Int × Int × Unit) : V U := .tup [(true, [.int .i64 (Ptr.kind (Loc.p ((follow (segO a.1) a.2.1 a.2.2.1).1))), .int .i64 (Ptr.off (Loc.p ((follow (segO a.1) a.2.1 a.2.2.1).1))), .int .i64 (Ptr.data (Loc.p ((follow (segO a.1) a.2.1 a.2.2.1).1))), .int .i64 (Ptr.ptrs (Loc.p ((follow (segO a.1) a.2.1 a.2.2.1).1))), .int .i64 (Ptr.code (Loc.p ((follow (segO a.1) a.2.1 a.2.2.1).1))), .int .i64 (Ptr.count (Loc.p ((follow (segO a.1) a.2.1 a.2.2.1).1))), .int .i64 (Ptr.segment (Loc.p ((follow (segO a.1) a.2.1 a.2.2.1).1))), .bool (Ptr.double (Loc.p ((follow (segO a.1) a.2.1 a.2.2.1).1))), .int .i64 (Loc.segment ((follow (segO a.1) a.2.1 a.2.2.1).1)), .int .i64 (Loc.at_ ((follow (segO a.1) a.2.1 a.2.2.1).1))]), (false, [.int .i64 ((follow (segO a.1) a.2.1 a.2.2.1).2)])]
noncomputable def spec63 : Fs U := fs args63 (fun a => [pre63 a]) res63
noncomputable def know113 : List (FuncId × Fs U) := [(122, spec122), (85, spec85)]
def lv113 : Lives U := fun i => match i with
  | 0 => ([(0, []), (3, []), (4, [])], [((.loc 3), []), ((.loc 4), [])])
  | 1 => ([(0, []), (3, []), (4, []), (6, [])], [((.loc 3), []), ((.loc 4), [])])
  | 2 => ([(3, []), (4, []), (21, [])], [((.loc 3), []), ((.loc 4), [])])
  | 3 => ([(4, []), (5, [])], [((.loc 4), [])])
  | 4 => ([(3, []), (4, [])], [((.loc 3), []), ((.loc 4), [])])
  | 5 => ([(4, []), (5, [])], [((.loc 4), [])])
  | _ => ([], [])
noncomputable abbrev A113 (p : List Nat) := awp cfg (know know113) (drawOk cfg (know know113)) Try.f113.ntmps lv113 (cd Try.f113 p)
theorem vc113 (a : Option Arena) (x : Loc) (Q : AExit → LSt U → Prop) (h : ∀ y_1, y_1 = ((Loc.p x)) → ((pre122 (y_1, ())) ∧ ((pre85 (a, (Loc.segment x), (Loc.at_ x), (if wordsP y_1 < 0 then 0 else wordsP y_1), ())) ∧ (((!(hasN (segO a) (Loc.segment x) (Loc.at_ x) (if wordsP y_1 < 0 then 0 else wordsP y_1))) = true → (Q .ret (⟨[(4, .ptr (.loc 4) 0), (5, .c (.int .i64 7))], [((.loc 4), [.int .i64 0, .int .i64 0, .int .i64 0, .int .i64 0, .int .i64 0, .int .i64 0, .int .i64 0, .bool false, .int .i64 0, .int .i64 0])], []⟩ : LSt U))) ∧ ((!(hasN (segO a) (Loc.segment x) (Loc.at_ x) (if wordsP y_1 < 0 then 0 else wordsP y_1))) = false → ((Q .ret (⟨[(4, .ptr (.loc 4) 0), (5, .c (.int .i64 0))], [((.loc 4), [.int .i64 (Ptr.kind (Loc.p x)), .int .i64 0, .int .i64 (Ptr.data (Loc.p x)), .int .i64 (Ptr.ptrs (Loc.p x)), .int .i64 (Ptr.code (Loc.p x)), .int .i64 (Ptr.count (Loc.p x)), .int .i64 (Ptr.segment (Loc.p x)), .bool (Ptr.double (Loc.p x)), .int .i64 (Loc.segment x), .int .i64 (Loc.at_ x)])], []⟩ : LSt U)))))))) :
    A113 [] (⟨[(0, .c (.po (U := U) .arena a)), (1, .agg [.int .i64 (Ptr.kind (Loc.p x)), .int .i64 (Ptr.off (Loc.p x)), .int .i64 (Ptr.data (Loc.p x)), .int .i64 (Ptr.ptrs (Loc.p x)), .int .i64 (Ptr.code (Loc.p x)), .int .i64 (Ptr.count (Loc.p x)), .int .i64 (Ptr.segment (Loc.p x)), .bool (Ptr.double (Loc.p x)), .int .i64 (Loc.segment x), .int .i64 (Loc.at_ x)])], [], []⟩ : LSt U) Q :=
  Eq.mpr (by kernel_rfl) (h _ (rePtr_eq _))
def Body113 (a : Option Arena) (x : Loc)  : Prop := awp cfg (know (know113)) (drawOk cfg (know (know113))) Try.f113.ntmps lv113 (cd Try.f113 []) (entry (args113.can (a, x, ())) []) (EndsQ cfg Try.f113.ntmps Try.f113.results.toList (res113 (a, x, ())) [])
theorem make113 (c122 : Contract Try.prog cfg 122 spec122) (c85 : Contract Try.prog cfg 85 spec85) (hb : ∀ (a : Option Arena) (x : Loc) (_ : Unit), pre113 (a, x, ()) → Body113 a x) : Contract Try.prog cfg 113 spec113 :=
  contract_flat (l := [(122, spec122), (85, spec85)]) cfgOk rfl (⟨c122, c85, trivial⟩) lv113 Try.func113 rfl rfl 2 (fun _ => rfl) (by decide) (fun ⟨a, x, _⟩ => hb a x ())
noncomputable def know87 : List (FuncId × Fs U) := [(113, spec113)]
def lv87 : Lives U := fun i => match i with
  | 0 => ([(0, []), (2, []), (3, []), (5, []), (8, [])], [((.loc 5), []), ((.loc 8), [])])
  | 1 => ([(0, []), (2, []), (3, []), (5, []), (8, []), (11, [])], [((.loc 5), []), ((.loc 8), [])])
  | 2 => ([(0, []), (2, []), (3, []), (5, []), (8, []), (11, []), (12, [])], [((.loc 5), []), ((.loc 8), [])])
  | 3 => ([(0, []), (2, []), (3, []), (5, []), (8, []), (11, []), (12, [])], [((.loc 5), []), ((.loc 8), [])])
  | 4 => ([(8, []), (9, [])], [((.loc 8), [])])
  | 5 => ([(8, []), (27, [])], [((.loc 8), [])])
  | 6 => ([(8, []), (9, [])], [((.loc 8), [])])
  | 7 => ([(8, []), (9, [])], [((.loc 8), [])])
  | _ => ([], [])
noncomputable abbrev A87 (p : List Nat) := awp cfg (know know87) (drawOk cfg (know know87)) Try.f87.ntmps lv87 (cd Try.f87 p)
theorem vc87 (a : Option Arena) (p : Ptr) (s : Int) (at_ : Int) (Q : AExit → LSt U → Prop) (h : ∀ y_1, y_1 = (p) → ∀ y_2, y_2 = (insideL (segO a) (Loc.mk y_1 s ((((at_ : Int) + 1) : Int) + (Ptr.off p)))) → (((((((Ptr.kind p) : Int) == 1) = true → ((((Ptr.kind p) : Int) == 1) = true → (InR ((at_ : Int) + 1)) ∧ (InR ((((at_ : Int) + 1) : Int) + (Ptr.off p))) ∧ (pre113 (a, (Loc.mk y_1 s ((((at_ : Int) + 1) : Int) + (Ptr.off p))), ())) ∧ (Q .ret (⟨[(8, .ptr (.loc 8) 0), (9, .c (.int .i64 (y_2.2)))], [((.loc 8), [.int .i64 (Ptr.kind (Loc.p (y_2.1))), .int .i64 (Ptr.off (Loc.p (y_2.1))), .int .i64 (Ptr.data (Loc.p (y_2.1))), .int .i64 (Ptr.ptrs (Loc.p (y_2.1))), .int .i64 (Ptr.code (Loc.p (y_2.1))), .int .i64 (Ptr.count (Loc.p (y_2.1))), .int .i64 (Ptr.segment (Loc.p (y_2.1))), .bool (Ptr.double (Loc.p (y_2.1))), .int .i64 (Loc.segment (y_2.1)), .int .i64 (Loc.at_ (y_2.1))])], []⟩ : LSt U))) ∧ ((((Ptr.kind p) : Int) == 1) = false → (((((Ptr.kind p) : Int) == 4) = true → (Q .ret (⟨[(8, .ptr (.loc 8) 0), (9, .c (.int .i64 9))], [((.loc 8), [.int .i64 0, .int .i64 0, .int .i64 0, .int .i64 0, .int .i64 0, .int .i64 0, .int .i64 0, .bool false, .int .i64 0, .int .i64 0])], []⟩ : LSt U))) ∧ ((((Ptr.kind p) : Int) == 4) = false → (Q .ret (⟨[(8, .ptr (.loc 8) 0), (9, .c (.int .i64 8))], [((.loc 8), [.int .i64 0, .int .i64 0, .int .i64 0, .int .i64 0, .int .i64 0, .int .i64 0, .int .i64 0, .bool false, .int .i64 0, .int .i64 0])], []⟩ : LSt U)))))) ∧ ((((Ptr.kind p) : Int) == 1) = false → (((((Ptr.kind p) : Int) == 2) = true → (InR ((at_ : Int) + 1)) ∧ (InR ((((at_ : Int) + 1) : Int) + (Ptr.off p))) ∧ (pre113 (a, (Loc.mk y_1 s ((((at_ : Int) + 1) : Int) + (Ptr.off p))), ())) ∧ (Q .ret (⟨[(8, .ptr (.loc 8) 0), (9, .c (.int .i64 (y_2.2)))], [((.loc 8), [.int .i64 (Ptr.kind (Loc.p (y_2.1))), .int .i64 (Ptr.off (Loc.p (y_2.1))), .int .i64 (Ptr.data (Loc.p (y_2.1))), .int .i64 (Ptr.ptrs (Loc.p (y_2.1))), .int .i64 (Ptr.code (Loc.p (y_2.1))), .int .i64 (Ptr.count (Loc.p (y_2.1))), .int .i64 (Ptr.segment (Loc.p (y_2.1))), .bool (Ptr.double (Loc.p (y_2.1))), .int .i64 (Loc.segment (y_2.1)), .int .i64 (Loc.at_ (y_2.1))])], []⟩ : LSt U))) ∧ ((((Ptr.kind p) : Int) == 2) = false → (((((Ptr.kind p) : Int) == 4) = true → (Q .ret (⟨[(8, .ptr (.loc 8) 0), (9, .c (.int .i64 9))], [((.loc 8), [.int .i64 0, .int .i64 0, .int .i64 0, .int .i64 0, .int .i64 0, .int .i64 0, .int .i64 0, .bool false, .int .i64 0, .int .i64 0])], []⟩ : LSt U))) ∧ ((((Ptr.kind p) : Int) == 4) = false → (Q .ret (⟨[(8, .ptr (.loc 8) 0), (9, .c (.int .i64 8))], [((.loc 8), [.int .i64 0, .int .i64 0, .int .i64 0, .int .i64 0, .int .i64 0, .int .i64 0, .int .i64 0, .bool false, .int .i64 0, .int .i64 0])], []⟩ : LSt U))))))))))) :
    A87 [] (⟨[(0, .c (.po (U := U) .arena a)), (1, .agg [.int .i64 (Ptr.kind p), .int .i64 (Ptr.off p), .int .i64 (Ptr.data p), .int .i64 (Ptr.ptrs p), .int .i64 (Ptr.code p), .int .i64 (Ptr.count p), .int .i64 (Ptr.segment p), .bool (Ptr.double p)]), (2, .c (.int .i64 s)), (3, .c (.int .i64 at_))], [], []⟩ : LSt U) Q :=
  Eq.mpr (by kernel_rfl) (h _ (rePtr_eq _) _ rfl)
def Body87 (a : Option Arena) (p : Ptr) (s : Int) (at_ : Int)  : Prop := awp cfg (know (know87)) (drawOk cfg (know (know87))) Try.f87.ntmps lv87 (cd Try.f87 []) (entry (args87.can (a, p, s, at_, ())) []) (EndsQ cfg Try.f87.ntmps Try.f87.results.toList (res87 (a, p, s, at_, ())) [])
theorem make87 (c113 : Contract Try.prog cfg 113 spec113) (hb : ∀ (a : Option Arena) (p : Ptr) (s : Int) (at_ : Int) (_ : Unit), pre87 (a, p, s, at_, ()) → Body87 a p s at_) : Contract Try.prog cfg 87 spec87 :=
  contract_flat (l := [(113, spec113)]) cfgOk rfl (⟨c113, trivial⟩) lv87 Try.func87 rfl rfl 4 (fun _ => rfl) (by decide) (fun ⟨a, p, s, at_, _⟩ => hb a p s at_ ())
noncomputable def know88 : List (FuncId × Fs U) := [(114, spec114), (86, spec86), (113, spec113)]
def lv88 : Lives U := fun i => match i with
  | 0 => ([(0, []), (1, []), (2, []), (6, [])], [((.loc 6), [])])
  | 1 => ([(0, []), (6, []), (8, []), (9, [])], [((.loc 6), [])])
  | 2 => ([(0, []), (6, []), (8, []), (20, [])], [((.loc 6), [])])
  | 3 => ([(6, []), (7, [])], [((.loc 6), [])])
  | 4 => ([(0, []), (6, []), (10, []), (11, [])], [((.loc 6), []), ((.loc 10), []), ((.loc 11), [])])
  | 5 => ([(0, []), (6, []), (10, []), (11, []), (30, [])], [((.loc 6), []), ((.loc 10), []), ((.loc 11), [])])
  | 6 => ([(6, []), (7, [])], [((.loc 6), [])])
  | 7 => ([(0, []), (6, []), (10, []), (11, []), (39, [])], [((.loc 6), []), ((.loc 10), []), ((.loc 11), [])])
  | 8 => ([(6, []), (7, [])], [((.loc 6), [])])
  | 9 => ([(0, []), (6, []), (10, []), (11, []), (44, [])], [((.loc 6), []), ((.loc 10), []), ((.loc 11), [])])
  | 10 => ([(6, []), (7, [])], [((.loc 6), [])])
  | 11 => ([(6, []), (7, [])], [((.loc 6), [])])
  | _ => ([], [])
noncomputable abbrev A88 (p : List Nat) := awp cfg (know know88) (drawOk cfg (know know88)) Try.f88.ntmps lv88 (cd Try.f88 p)
theorem vc88 (a : Option Arena) (s : Int) (at_ : Int) (Q : AExit → LSt U → Prop) (h : ∀ y_1, y_1 = (List.getD (if hasN (segO a) s at_ 2 then partS (segO a) s at_ 2 else []) (Int.toNat 0) (0 : Int)) → ∀ y_2, y_2 = (List.getD (if hasN (segO a) s at_ 2 then partS (segO a) s at_ 2 else []) (Int.toNat 1) (0 : Int)) → ∀ y_3, y_3 = ((decP y_2)) → ∀ y_4, y_4 = (insideL (segO a) (Loc.mk y_3 (Ptr.segment (decP y_1)) (Ptr.off (decP y_1)))) → ((pre114 (a, s, at_, 2, ())) ∧ ((((!(hasN (segO a) s at_ 2)) = true → (Q .ret (⟨[(6, .ptr (.loc 6) 0), (7, .c (.int .i64 7))], [((.loc 6), [.int .i64 0, .int .i64 0, .int .i64 0, .int .i64 0, .int .i64 0, .int .i64 0, .int .i64 0, .bool false, .int .i64 0, .int .i64 0])], []⟩ : LSt U))) ∧ ((!(hasN (segO a) s at_ 2)) = false → ((0 : Int) ≤ 0 ∧ 0 < ((if hasN (segO a) s at_ 2 then partS (segO a) s at_ 2 else []).length : Int)) ∧ (pre86 (y_1, ())) ∧ ((0 : Int) ≤ 1 ∧ 1 < ((if hasN (segO a) s at_ 2 then partS (segO a) s at_ 2 else []).length : Int)) ∧ (pre86 (y_2, ())) ∧ ((Tr ((!(((Ptr.kind (decP y_1)) : Int) != 3)) = true)) ∧ (((((Ptr.kind (decP y_1)) : Int) != 3) = false → (!(((Ptr.kind (decP y_1)) : Int) != 3)) = true)) ∧ (((bif (((Ptr.kind (decP y_1)) : Int) != 3) then true else (Ptr.double (decP y_1))) = true → (Q .ret (⟨[(6, .ptr (.loc 6) 0), (7, .c (.int .i64 8))], [((.loc 6), [.int .i64 0, .int .i64 0, .int .i64 0, .int .i64 0, .int .i64 0, .int .i64 0, .int .i64 0, .bool false, .int .i64 0, .int .i64 0])], []⟩ : LSt U))) ∧ ((bif (((Ptr.kind (decP y_1)) : Int) != 3) then true else (Ptr.double (decP y_1))) = false → (((((Ptr.kind (decP y_2)) : Int) == 4) = true → (Q .ret (⟨[(6, .ptr (.loc 6) 0), (7, .c (.int .i64 9))], [((.loc 6), [.int .i64 0, .int .i64 0, .int .i64 0, .int .i64 0, .int .i64 0, .int .i64 0, .int .i64 0, .bool false, .int .i64 0, .int .i64 0])], []⟩ : LSt U))) ∧ ((((Ptr.kind (decP y_2)) : Int) == 4) = false → (Tr ((((Ptr.kind (decP y_2)) : Int) != 1) = true)) ∧ (Tr ((((Ptr.kind (decP y_2)) : Int) != 1) = true)) ∧ ((Tr ((((Ptr.kind (decP y_2)) : Int) != 1) = true))) ∧ (Tr ((!(bif (((Ptr.kind (decP y_2)) : Int) != 1) then (((Ptr.kind (decP y_2)) : Int) != 2) else false)) = true)) ∧ (Tr ((!(bif (((Ptr.kind (decP y_2)) : Int) != 1) then (((Ptr.kind (decP y_2)) : Int) != 2) else false)) = true)) ∧ (((bif (((Ptr.kind (decP y_2)) : Int) != 1) then (((Ptr.kind (decP y_2)) : Int) != 2) else false) = false → (!(bif (((Ptr.kind (decP y_2)) : Int) != 1) then (((Ptr.kind (decP y_2)) : Int) != 2) else false)) = true)) ∧ (((bif (bif (((Ptr.kind (decP y_2)) : Int) != 1) then (((Ptr.kind (decP y_2)) : Int) != 2) else false) then true else (((Ptr.off (decP y_2)) : Int) != 0)) = true → (Q .ret (⟨[(6, .ptr (.loc 6) 0), (7, .c (.int .i64 8))], [((.loc 6), [.int .i64 0, .int .i64 0, .int .i64 0, .int .i64 0, .int .i64 0, .int .i64 0, .int .i64 0, .bool false, .int .i64 0, .int .i64 0])], []⟩ : LSt U))) ∧ ((bif (bif (((Ptr.kind (decP y_2)) : Int) != 1) then (((Ptr.kind (decP y_2)) : Int) != 2) else false) then true else (((Ptr.off (decP y_2)) : Int) != 0)) = false → (pre113 (a, (Loc.mk y_3 (Ptr.segment (decP y_1)) (Ptr.off (decP y_1))), ())) ∧ (Q .ret (⟨[(6, .ptr (.loc 6) 0), (7, .c (.int .i64 (y_4.2)))], [((.loc 6), [.int .i64 (Ptr.kind (Loc.p (y_4.1))), .int .i64 (Ptr.off (Loc.p (y_4.1))), .int .i64 (Ptr.data (Loc.p (y_4.1))), .int .i64 (Ptr.ptrs (Loc.p (y_4.1))), .int .i64 (Ptr.code (Loc.p (y_4.1))), .int .i64 (Ptr.count (Loc.p (y_4.1))), .int .i64 (Ptr.segment (Loc.p (y_4.1))), .bool (Ptr.double (Loc.p (y_4.1))), .int .i64 (Loc.segment (y_4.1)), .int .i64 (Loc.at_ (y_4.1))])], []⟩ : LSt U)))))))))))))) :
    A88 [] (⟨[(0, .c (.po (U := U) .arena a)), (1, .c (.int .i64 s)), (2, .c (.int .i64 at_))], [], []⟩ : LSt U) Q :=
  Eq.mpr (by kernel_rfl) (h _ rfl _ rfl _ (rePtr_eq _) _ rfl)
def Body88 (a : Option Arena) (s : Int) (at_ : Int)  : Prop := awp cfg (know (know88)) (drawOk cfg (know (know88))) Try.f88.ntmps lv88 (cd Try.f88 []) (entry (args88.can (a, s, at_, ())) []) (EndsQ cfg Try.f88.ntmps Try.f88.results.toList (res88 (a, s, at_, ())) [])
theorem make88 (c114 : Contract Try.prog cfg 114 spec114) (c86 : Contract Try.prog cfg 86 spec86) (c113 : Contract Try.prog cfg 113 spec113) (hb : ∀ (a : Option Arena) (s : Int) (at_ : Int) (_ : Unit), pre88 (a, s, at_, ()) → Body88 a s at_) : Contract Try.prog cfg 88 spec88 :=
  contract_flat (l := [(114, spec114), (86, spec86), (113, spec113)]) cfgOk rfl (⟨c114, c86, c113, trivial⟩) lv88 Try.func88 rfl rfl 3 (fun _ => rfl) (by decide) (fun ⟨a, s, at_, _⟩ => hb a s at_ ())
noncomputable def know63 : List (FuncId × Fs U) := [(62, spec62), (86, spec86), (87, spec87), (88, spec88)]
def lv63 : Lives U := fun i => match i with
  | 0 => ([(0, []), (1, []), (2, []), (6, [])], [((.loc 6), [])])
  | 1 => ([(0, []), (1, []), (2, []), (6, []), (8, []), (9, [])], [((.loc 6), [])])
  | 2 => ([(0, []), (1, []), (2, []), (6, []), (8, []), (20, [])], [((.loc 6), [])])
  | 3 => ([(6, []), (7, [])], [((.loc 6), [])])
  | 4 => ([(0, []), (1, []), (2, []), (6, []), (10, [])], [((.loc 6), []), ((.loc 10), [])])
  | 5 => ([(0, []), (1, []), (2, []), (6, []), (10, []), (24, [])], [((.loc 6), []), ((.loc 10), [])])
  | 6 => ([(6, []), (7, [])], [((.loc 6), [])])
  | 7 => ([(0, []), (1, []), (2, []), (6, []), (10, []), (29, [])], [((.loc 6), []), ((.loc 10), [])])
  | 8 => ([(6, []), (7, [])], [((.loc 6), [])])
  | 9 => ([(0, []), (6, []), (10, []), (40, [])], [((.loc 6), []), ((.loc 10), [])])
  | 10 => ([(6, []), (7, [])], [((.loc 6), [])])
  | 11 => ([(0, []), (6, []), (9, []), (10, []), (11, [])], [((.loc 6), []), ((.loc 10), [])])
  | 12 => ([(0, []), (6, []), (10, []), (11, []), (61, [])], [((.loc 6), []), ((.loc 10), [])])
  | 13 => ([(6, []), (7, [])], [((.loc 6), [])])
  | 14 => ([(6, []), (7, [])], [((.loc 6), [])])
  | _ => ([], [])
noncomputable abbrev A63 (p : List Nat) := awp cfg (know know63) (drawOk cfg (know know63)) Try.f63.ntmps lv63 (cd Try.f63 p)
theorem vc63 (a : Option Arena) (s : Int) (at_ : Int) (Q : AExit → LSt U → Prop) (h : ∀ y_1, y_1 = (decP (if hasN (segO a) s at_ 1 then getS (segO a) s at_ else 0)) → ∀ y_2, y_2 = (y_1) → ∀ y_3, y_3 = (Loc.p ((doubleL (segO a) (Ptr.segment y_1) (Ptr.off y_1)).1)) → ∀ y_4, y_4 = (decP (if hasN (segO a) (Ptr.segment y_1) (Ptr.off y_1) 1 then getS (segO a) (Ptr.segment y_1) (Ptr.off y_1) else 0)) → ∀ y_5, y_5 = (y_4) → ∀ y_6, y_6 = (Loc.p ((nearL (segO a) y_5 (Ptr.segment y_1) (Ptr.off y_1)).1)) → ((pre62 (a, s, at_, ())) ∧ ((((!(hasN (segO a) s at_ 1)) = true → (Q .ret (⟨[(6, .ptr (.loc 6) 0), (7, .c (.int .i64 7))], [((.loc 6), [.int .i64 0, .int .i64 0, .int .i64 0, .int .i64 0, .int .i64 0, .int .i64 0, .int .i64 0, .bool false, .int .i64 0, .int .i64 0])], []⟩ : LSt U))) ∧ ((!(hasN (segO a) s at_ 1)) = false → (pre86 ((if hasN (segO a) s at_ 1 then getS (segO a) s at_ else 0), ())) ∧ ((((((Ptr.kind y_1) : Int) == 0) = true → (Q .ret (⟨[(6, .ptr (.loc 6) 0), (7, .c (.int .i64 0))], [((.loc 6), [.int .i64 0, .int .i64 0, .int .i64 0, .int .i64 0, .int .i64 0, .int .i64 0, .int .i64 0, .bool false, .int .i64 0, .int .i64 0])], []⟩ : LSt U))) ∧ ((((Ptr.kind y_1) : Int) == 0) = false → (((((Ptr.kind y_1) : Int) != 3) = true → (pre87 (a, y_2, s, at_, ())) ∧ (Q .ret (⟨[(6, .ptr (.loc 6) 0), (7, .c (.int .i64 ((nearL (segO a) y_2 s at_).2)))], [((.loc 6), [.int .i64 (Ptr.kind (Loc.p ((nearL (segO a) y_2 s at_).1))), .int .i64 (Ptr.off (Loc.p ((nearL (segO a) y_2 s at_).1))), .int .i64 (Ptr.data (Loc.p ((nearL (segO a) y_2 s at_).1))), .int .i64 (Ptr.ptrs (Loc.p ((nearL (segO a) y_2 s at_).1))), .int .i64 (Ptr.code (Loc.p ((nearL (segO a) y_2 s at_).1))), .int .i64 (Ptr.count (Loc.p ((nearL (segO a) y_2 s at_).1))), .int .i64 (Ptr.segment (Loc.p ((nearL (segO a) y_2 s at_).1))), .bool (Ptr.double (Loc.p ((nearL (segO a) y_2 s at_).1))), .int .i64 (Loc.segment ((nearL (segO a) y_2 s at_).1)), .int .i64 (Loc.at_ ((nearL (segO a) y_2 s at_).1))])], []⟩ : LSt U))) ∧ ((((Ptr.kind y_1) : Int) != 3) = false → (((Ptr.double y_1) = true → (pre88 (a, (Ptr.segment y_1), (Ptr.off y_1), ())) ∧ (Q .ret (⟨[(6, .ptr (.loc 6) 0), (7, .c (.int .i64 ((doubleL (segO a) (Ptr.segment y_1) (Ptr.off y_1)).2)))], [((.loc 6), [.int .i64 (Ptr.kind y_3), .int .i64 (Ptr.off y_3), .int .i64 (Ptr.data y_3), .int .i64 (Ptr.ptrs y_3), .int .i64 (Ptr.code y_3), .int .i64 (Ptr.count y_3), .int .i64 (Ptr.segment y_3), .bool (Ptr.double y_3), .int .i64 (Loc.segment ((doubleL (segO a) (Ptr.segment y_1) (Ptr.off y_1)).1)), .int .i64 (Loc.at_ ((doubleL (segO a) (Ptr.segment y_1) (Ptr.off y_1)).1))])], []⟩ : LSt U))) ∧ ((Ptr.double y_1) = false → (pre62 (a, (Ptr.segment y_1), (Ptr.off y_1), ())) ∧ ((((!(hasN (segO a) (Ptr.segment y_1) (Ptr.off y_1) 1)) = true → (Q .ret (⟨[(6, .ptr (.loc 6) 0), (7, .c (.int .i64 7))], [((.loc 6), [.int .i64 0, .int .i64 0, .int .i64 0, .int .i64 0, .int .i64 0, .int .i64 0, .int .i64 0, .bool false, .int .i64 0, .int .i64 0])], []⟩ : LSt U))) ∧ ((!(hasN (segO a) (Ptr.segment y_1) (Ptr.off y_1) 1)) = false → (pre86 ((if hasN (segO a) (Ptr.segment y_1) (Ptr.off y_1) 1 then getS (segO a) (Ptr.segment y_1) (Ptr.off y_1) else 0), ())) ∧ (pre87 (a, y_5, (Ptr.segment y_1), (Ptr.off y_1), ())) ∧ (Q .ret (⟨[(6, .ptr (.loc 6) 0), (7, .c (.int .i64 ((nearL (segO a) y_5 (Ptr.segment y_1) (Ptr.off y_1)).2)))], [((.loc 6), [.int .i64 (Ptr.kind y_6), .int .i64 (Ptr.off y_6), .int .i64 (Ptr.data y_6), .int .i64 (Ptr.ptrs y_6), .int .i64 (Ptr.code y_6), .int .i64 (Ptr.count y_6), .int .i64 (Ptr.segment y_6), .bool (Ptr.double y_6), .int .i64 (Loc.segment ((nearL (segO a) y_5 (Ptr.segment y_1) (Ptr.off y_1)).1)), .int .i64 (Loc.at_ ((nearL (segO a) y_5 (Ptr.segment y_1) (Ptr.off y_1)).1))])], []⟩ : LSt U))))))))))))))))) :
    A63 [] (⟨[(0, .c (.po (U := U) .arena a)), (1, .c (.int .i64 s)), (2, .c (.int .i64 at_))], [], []⟩ : LSt U) Q :=
  Eq.mpr (by kernel_rfl) (h _ rfl _ (rePtr_eq _) _ rfl _ rfl _ (rePtr_eq _) _ rfl)
def Body63 (a : Option Arena) (s : Int) (at_ : Int)  : Prop := awp cfg (know (know63)) (drawOk cfg (know (know63))) Try.f63.ntmps lv63 (cd Try.f63 []) (entry (args63.can (a, s, at_, ())) []) (EndsQ cfg Try.f63.ntmps Try.f63.results.toList (res63 (a, s, at_, ())) [])
theorem make63 (c62 : Contract Try.prog cfg 62 spec62) (c86 : Contract Try.prog cfg 86 spec86) (c87 : Contract Try.prog cfg 87 spec87) (c88 : Contract Try.prog cfg 88 spec88) (hb : ∀ (a : Option Arena) (s : Int) (at_ : Int) (_ : Unit), pre63 (a, s, at_, ()) → Body63 a s at_) : Contract Try.prog cfg 63 spec63 :=
  contract_flat (l := [(62, spec62), (86, spec86), (87, spec87), (88, spec88)]) cfgOk rfl (⟨c62, c86, c87, c88, trivial⟩) lv63 Try.func63 rfl rfl 3 (fun _ => rfl) (by decide) (fun ⟨a, s, at_, _⟩ => hb a s at_ ())
end Go.AM.Ythokdjgpdonhgaa

namespace Go.AM.Ythokdjgpdonhgaa
open Go.AM Go.Proofs
abbrev tL (x : Loc × Int) : V U := .tup [(true, enc .loc x.1), (false, [.int .i64 x.2])]
theorem wordsP_nn {p : Ptr} (h : OkP p) (hk : p.kind = 1 ∨ p.kind = 2) : 0 ≤ wordsP p := by
  have h1 := h.data
  have h2 := h.ptrs
  have h3 := h.code
  have h4 := h.count
  have hb : 0 ≤ bitsP p.code := by unfold bitsP; (repeat' split) <;> omega
  have hm := Int.mul_nonneg h4.1 hb
  unfold wordsP
  repeat' split
  all_goals omega
theorem c113 : Contract Try.prog cfg 113 spec113 := by
  refine make113 c122 c85 ?_
  intro a x _ hp
  obtain ⟨ha, hx, hk⟩ := hp
  dsimp only at ha hx hk
  refine vc113 _ _ _ ?_
  rintro y hy
  dsimp only at hy
  subst hy
  (simp only [vcT, vcS])
  have hw := wordsP_nn hx hk
  rw [if_neg (show ¬ wordsP x.p < 0 by omega)]
  have hr : res113 (a, x, ()) = tL (insideL (segO a) x) := rfl
  rw [hr]
  refine ⟨hx, ha, fun h => ?_, fun h => ?_⟩
  · rw [show insideL (segO a) x = (locZ, 7) by unfold insideL; rw [h]; rfl]; (repeat' (first | exact trivial | exact rfl | apply And.intro))
  · rw [show insideL (segO a) x = (⟨off0 x.p, x.segment, x.at_⟩, 0) by unfold insideL; rw [h]; rfl]; (repeat' (first | exact trivial | exact rfl | apply And.intro))
theorem shape_1 {p : Ptr} (h : p.kind = 1 ∨ p.kind = 2) : shapeE p = 0 := by unfold shapeE; rw [if_neg (by omega), if_pos h]
theorem shape_4 {p : Ptr} (h : p.kind = 4) : shapeE p = 9 := by unfold shapeE; rw [if_pos h]
theorem shape_8 {p : Ptr} (h1 : ¬p.kind = 1) (h2 : ¬p.kind = 2) (h4 : ¬p.kind = 4) : shapeE p = 8 := by unfold shapeE; rw [if_neg h4, if_neg (by omega)]
theorem c87 : Contract Try.prog cfg 87 spec87 := by
  refine make87 c113 ?_
  intro a p s x _ hp
  obtain ⟨ha, hx, h0, h1⟩ := hp
  dsimp only at ha hx h0 h1
  have ho := hx.off
  refine vc87 _ _ _ _ _ ?_
  rintro y hy z hz
  dsimp only at hy hz
  replace hy := hy.symm
  subst hy hz
  (simp only [vcT, vcS])
  have hr : res87 (a, p, s, x, ()) = tL (nearL (segO a) p s x) := rfl
  rw [hr]
  have hok : p.kind = 1 ∨ p.kind = 2 → nearL (segO a) p s x = insideL (segO a) ⟨p, s, x + 1 + p.off⟩ := fun h => by
    unfold nearL; rw [shape_1 h, if_pos rfl]
  have h4 : p.kind = 4 → nearL (segO a) p s x = (locZ, 9) := fun h => by unfold nearL; rw [shape_4 h, if_neg (by decide)]
  have h8 : ¬p.kind = 1 → ¬p.kind = 2 → ¬p.kind = 4 → nearL (segO a) p s x = (locZ, 8) := fun a1 a2 a3 => by unfold nearL; rw [shape_8 a1 a2 a3, if_neg (by decide)]
  refine ⟨fun k1 => ⟨fun _ => ⟨by ((unfold InR; omega)), by ((unfold InR; omega)), ⟨ha, hx, .inl k1⟩, ?_⟩, fun k2 => absurd k1 k2⟩, fun k1 => ⟨fun k2 => ⟨by ((unfold InR; omega)), by ((unfold InR; omega)), ⟨ha, hx, .inr k2⟩, ?_⟩, fun k2 => ⟨fun k4 => ?_, fun k4 => ?_⟩⟩⟩
  · rw [hok (.inl k1)]; (repeat' (first | exact trivial | exact rfl | apply And.intro))
  · rw [hok (.inr k2)]; (repeat' (first | exact trivial | exact rfl | apply And.intro))
  · rw [h4 k4]; (repeat' (first | exact trivial | exact rfl | apply And.intro))
  · rw [h8 k1 k2 k4]; (repeat' (first | exact trivial | exact rfl | apply And.intro))
theorem partS_get {l : List (List Int)} {s x : Int} {n k : Nat} (hx : 0 ≤ x) (hk : k < n) : (partS l s x (n : Int)).getD k 0 = getS l s (x + k) := by
  unfold partS getS
  rw [List.getD_eq_getElem?_getD, List.getD_eq_getElem?_getD, List.getElem?_take_of_lt (by omega), List.getElem?_drop, show (x + (k : Int)).toNat = x.toNat + k by omega]
theorem partS_len {l : List (List Int)} {s x n : Int} (h : hasN l s x n = true) : ((partS l s x n).length : Int) = n := by
  have hh := hasN_iff.1 h
  unfold partS
  simp
  omega
theorem c88 : Contract Try.prog cfg 88 spec88 := by
  refine make88 c114 c86 c113 ?_
  intro a s x _ ha
  simp only [pre88] at ha
  refine vc88 _ _ _ _ ?_
  rintro y1 h1 y2 h2 y3 h3 y4 h4
  dsimp only at h1 h2 h3 h4
  (simp only [vcT, vcS])
  have hr : res88 (a, s, x, ()) = tL (doubleL (segO a) s x) := rfl
  rw [hr]
  refine ⟨ha, fun h => ?_, fun h => ?_⟩
  · rw [show doubleL (segO a) s x = (locZ, 7) by unfold doubleL; rw [h]; rfl]; (repeat' (first | exact trivial | exact rfl | apply And.intro))
  · have hh := hasN_iff.1 h
    have hl := partS_len h
    rw [if_pos h] at h1 h2 ⊢
    have e1 : y1 = getS (segO a) s x := by rw [h1]; have := partS_get (l := segO a) (s := s) (x := x) (n := 2) (k := 0) hh.2.2.1 (by decide); simpa using this
    have e2 : y2 = getS (segO a) s (x + 1) := by rw [h2]; have := partS_get (l := segO a) (s := s) (x := x) (n := 2) (k := 1) hh.2.2.1 (by decide); simpa using this
    have w1 := getS_word ha s x
    have w2 := getS_word ha s (x + 1)
    have o2 := okP_dec w2.1 w2.2
    clear h1 h2
    subst e1 e2 h3 h4
    have hD : doubleL (segO a) s x = if (decP (getS (segO a) s x)).kind ≠ 3 ∨ (decP (getS (segO a) s x)).double = true then (locZ, 8)
        else if shapeE (decP (getS (segO a) s (x + 1))) ≠ 0 then (locZ, shapeE (decP (getS (segO a) s (x + 1))))
        else if (decP (getS (segO a) s (x + 1))).off ≠ 0 then (locZ, 8)
        else insideL (segO a) ⟨decP (getS (segO a) s (x + 1)), (decP (getS (segO a) s x)).segment, (decP (getS (segO a) s x)).off⟩ := by unfold doubleL; rw [h]; rfl
    rw [hD]
    refine ⟨by omega, w1, by omega, w2, fun k => ?_, fun k => ⟨fun k4 => ?_, fun k4 => ⟨fun k5 => ?_, fun k5 => ⟨⟨ha, o2, k5.1⟩, ?_⟩⟩⟩⟩
    · rw [if_pos k]; (repeat' (first | exact trivial | exact rfl | apply And.intro))
    all_goals rw [if_neg (show ¬ ((decP (getS (segO a) s x)).kind ≠ 3 ∨ (decP (getS (segO a) s x)).double = true) by rw [k.1, k.2]; simp)]
    · rw [shape_4 k4, if_pos (by decide)]; (repeat' (first | exact trivial | exact rfl | apply And.intro))
    · by_cases k6 : (decP (getS (segO a) s (x + 1))).kind = 1 ∨ (decP (getS (segO a) s (x + 1))).kind = 2
      · rw [shape_1 k6, if_neg (by decide), if_pos (by omega)]; (repeat' (first | exact trivial | exact rfl | apply And.intro))
      · rw [shape_8 (fun e => k6 (.inl e)) (fun e => k6 (.inr e)) k4, if_pos (by decide)]; (repeat' (first | exact trivial | exact rfl | apply And.intro))
    · rw [shape_1 k5.1, if_neg (by decide), if_neg (by omega)]; (repeat' (first | exact trivial | exact rfl | apply And.intro))
theorem c63 : Contract Try.prog cfg 63 spec63 := by
  refine make63 c62 c86 c87 c88 ?_
  intro a s x _ ha
  simp only [pre63] at ha
  refine vc63 _ _ _ _ ?_
  rintro y1 h1 y2 h2 y3 h3 y4 h4 y5 h5 y6 h6
  dsimp only at h1 h2 h3 h4 h5 h6
  (simp only [vcT, vcS])
  have hr : res63 (a, s, x, ()) = tL (follow (segO a) s x) := rfl
  rw [hr]
  refine ⟨ha, fun h => ?_, fun h => ?_⟩
  · rw [show follow (segO a) s x = (locZ, 7) by unfold follow; rw [h]; rfl]; (repeat' (first | exact trivial | exact rfl | apply And.intro))
  · have hh := hasN_iff.1 h
    have hl := (okSeg_at ha s).1
    have hl2 := (okSeg_at ha y1.segment).1
    have w1 := getS_word ha s x
    rw [if_pos h] at h1 ⊢
    have o1 := okP_dec w1.1 w1.2
    rw [← h1] at o1
    have hD : follow (segO a) s x = if y1.kind = 0 then (locZ, 0) else if y1.kind ≠ 3 then nearL (segO a) y1 s x else if y1.double = true then doubleL (segO a) y1.segment y1.off
        else if hasN (segO a) y1.segment y1.off 1 then nearL (segO a) (decP (getS (segO a) y1.segment y1.off)) y1.segment y1.off else (locZ, 7) := by unfold follow; rw [h, h1]; rfl
    rw [hD]
    clear hD
    subst h2 h3 h5 h6
    refine ⟨w1, fun k0 => ?_, fun k0 => ⟨fun k3 => ⟨⟨ha, o1, hh.2.2.1, by dsimp only; omega⟩, ?_⟩, fun k3 => ⟨fun kd => ⟨ha, ?_⟩, fun kd => ⟨ha, fun kh => ?_, fun kh => ?_⟩⟩⟩⟩
    · rw [if_pos k0]; (repeat' (first | exact trivial | exact rfl | apply And.intro))
    · rw [if_neg k0, if_pos k3]; (repeat' (first | exact trivial | exact rfl | apply And.intro))
    · rw [if_neg k0, if_neg (by omega), if_pos kd]; (repeat' (first | exact trivial | exact rfl | apply And.intro))
    · rw [if_neg k0, if_neg (by omega), if_neg (by rw [kd]; decide), if_neg (by rw [kh]; decide)]; (repeat' (first | exact trivial | exact rfl | apply And.intro))
    · have hh2 := hasN_iff.1 kh
      have w2 := getS_word ha y2.segment y2.off
      rw [if_pos kh] at h4 ⊢
      subst h4
      refine ⟨w2, ⟨ha, okP_dec w2.1 w2.2, hh2.2.2.1, by dsimp only; omega⟩, ?_⟩
      rw [if_neg k0, if_neg (by omega), if_neg (by rw [kd]; decide), if_pos kh]; (repeat' (first | exact trivial | exact rfl | apply And.intro))
end Go.AM.Ythokdjgpdonhgaa
