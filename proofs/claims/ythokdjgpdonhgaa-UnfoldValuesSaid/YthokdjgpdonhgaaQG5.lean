import Derived.Test.YthokdjgpdonhgaaBmZ
import Derived.Test.YthokdjgpdonhgaaChecked
import Derived.Test.YthokdjgpdonhgaaQD2
set_option linter.unusedSimpArgs false
set_option linter.unusedVariables false
namespace Go.AM.Ythokdjgpdonhgaa
open Go.AM Go.Proofs
def el : Ty → TypeId
  | .u64 => 26
  | .u8 => 5
  | .int => 3
  | .words => 22
  | .tree => 53
  | .ptr => 89
  | .loc => 91
  | .arena => 84
  | .ref => 31
  | .xref => 42
  | .limits => 60
def tb : Tables U :=
  { el := el
    sl := [(22, .u64), (29, .words), (39, .int), (51, .tree)]
    var := [(2, false, [.int .i64 0]),
      (3, false, [.int .i64 0]),
      (4, false, [.bool false]),
      (5, false, [.int .u8 0]),
      (6, false, [.int .u8 0]),
      (7, true, [.int .i64 0, .int .i64 0, .bool false, .int .u8 0]),
      (8, true, [.int .i64 0, .int .i64 0, .bool false, .int .u8 0]),
      (12, false, [.int .u64 0]),
      (15, false, [.nilp]),
      (16, false, [.nilp]),
      (17, false, [.nilp]),
      (18, true, [.nilp]),
      (19, true, [.nilp]),
      (21, false, [.int .i32 0]),
      (22, false, [.nils]),
      (26, false, [.int .u64 0]),
      (27, false, [.nilp]),
      (29, false, [.nils]),
      (30, true, [.nilp, .int .i64 0, .int .i64 0, .int .i64 0, .int .i64 0, .int .i64 0, .int .i64 0, .int .u64 0]),
      (31, true, [.nilp, .int .i64 0, .int .i64 0, .int .i64 0, .int .i64 0, .int .i64 0, .int .i64 0, .int .u64 0]),
      (32, false, [.int .i64 0]),
      (39, false, [.nils]),
      (41, true, [.int .i64 0, .int .i64 0, .int .i64 0, .int .i64 0, .int .i64 0, .int .i64 0, .int .u64 0]),
      (42, true, [.int .i64 0, .int .i64 0, .int .i64 0, .int .i64 0, .int .i64 0, .int .i64 0, .int .u64 0]),
      (51, false, [.nils]),
      (52, true, [.int .i64 0, .nils, .nils]),
      (53, true, [.int .i64 0, .nils, .nils]),
      (59, true, [.int .i64 0, .int .i64 0, .int .i64 0, .int .i64 0]),
      (60, true, [.int .i64 0, .int .i64 0, .int .i64 0, .int .i64 0]),
      (70, false, [.int .u32 0]),
      (71, false, [.int .u64 0]),
      (83, true, [.nils, .int .i64 0, .int .i64 0, .int .i64 0]),
      (84, true, [.nils, .int .i64 0, .int .i64 0, .int .i64 0]),
      (88, true, [.int .i64 0, .int .i64 0, .int .i64 0, .int .i64 0, .int .i64 0, .int .i64 0, .int .i64 0, .bool false]),
      (89, true, [.int .i64 0, .int .i64 0, .int .i64 0, .int .i64 0, .int .i64 0, .int .i64 0, .int .i64 0, .bool false]),
      (90, true, [.int .i64 0, .int .i64 0, .int .i64 0, .int .i64 0, .int .i64 0, .int .i64 0, .int .i64 0, .bool false, .int .i64 0, .int .i64 0]),
      (91, true, [.int .i64 0, .int .i64 0, .int .i64 0, .int .i64 0, .int .i64 0, .int .i64 0, .int .i64 0, .bool false, .int .i64 0, .int .i64 0]),
      (94, true, [.int .i64 0, .int .i64 0, .int .i64 0, .int .i64 0, .int .i64 0, .int .i64 0, .int .i64 0, .bool false]),
      (95, true, [.int .i64 0, .int .i64 0, .int .i64 0, .int .i64 0, .int .i64 0, .int .i64 0, .int .i64 0, .bool false, .int .i64 0, .int .i64 0]),
      (96, true, [.int .i64 0, .int .i64 0, .int .i64 0, .int .i64 0, .int .i64 0, .int .i64 0, .int .i64 0, .bool false, .int .i64 0, .int .i64 0]),
      (105, false, [.nilp]),
      (106, true, [.nils]),
      (107, true, [.nils]),
      (110, false, [.nilp]),
      (111, true, [.int .i64 0, .int .i64 0]),
      (112, true, [.int .i64 0, .int .i64 0]),
      (138, true, [.int .i64 0, .int .i64 0, .int .i64 0, .int .i64 0, .int .i64 0, .int .i64 0]),
      (142, true, [.int .i64 0, .int .i64 0, .int .i64 0, .int .i64 0, .int .i64 0, .int .i64 0, .int .i64 0]),
      (149, false, [.int .u8 0]),
      (150, false, [.int .u8 0]),
      (152, false, [.nilp]),
      (153, false, [.int .i32 0]),
      (154, false, [.int .i32 0])]
    fld := [(7, 0, 0, 2), (7, 1, 1, 3), (7, 2, 2, 4), (7, 3, 3, 6), (8, 0, 0, 2), (8, 1, 1, 3), (8, 2, 2, 4), (8, 3, 3, 6), (18, 0, 0, 17), (19, 0, 0, 17), (30, 0, 0, 27), (30, 1, 1, 3), (30, 2, 2, 3), (30, 3, 3, 3), (30, 4, 4, 3), (30, 5, 5, 3), (30, 6, 6, 3), (30, 7, 7, 26), (31, 0, 0, 27), (31, 1, 1, 3), (31, 2, 2, 3), (31, 3, 3, 3), (31, 4, 4, 3), (31, 5, 5, 3), (31, 6, 6, 3), (31, 7, 7, 26), (41, 0, 0, 3), (41, 1, 1, 3), (41, 2, 2, 3), (41, 3, 3, 3), (41, 4, 4, 3), (41, 5, 5, 3), (41, 6, 6, 26), (42, 0, 0, 3), (42, 1, 1, 3), (42, 2, 2, 3), (42, 3, 3, 3), (42, 4, 4, 3), (42, 5, 5, 3), (42, 6, 6, 26), (52, 0, 0, 3), (52, 1, 1, 22), (52, 2, 2, 51), (53, 0, 0, 3), (53, 1, 1, 22), (53, 2, 2, 51), (59, 0, 0, 3), (59, 1, 1, 3), (59, 2, 2, 3), (59, 3, 3, 3), (60, 0, 0, 3), (60, 1, 1, 3), (60, 2, 2, 3), (60, 3, 3, 3), (83, 0, 0, 29), (83, 1, 1, 3), (83, 2, 2, 3), (83, 3, 3, 3), (84, 0, 0, 29), (84, 1, 1, 3), (84, 2, 2, 3), (84, 3, 3, 3), (88, 0, 0, 3), (88, 1, 1, 3), (88, 2, 2, 3), (88, 3, 3, 3), (88, 4, 4, 3), (88, 5, 5, 3), (88, 6, 6, 3), (88, 7, 7, 4), (89, 0, 0, 3), (89, 1, 1, 3), (89, 2, 2, 3), (89, 3, 3, 3), (89, 4, 4, 3), (89, 5, 5, 3), (89, 6, 6, 3), (89, 7, 7, 4), (90, 0, 0, 89), (90, 1, 8, 3), (90, 2, 9, 3), (91, 0, 0, 89), (91, 1, 8, 3), (91, 2, 9, 3), (94, 0, 0, 3), (94, 1, 1, 3), (94, 2, 2, 3), (94, 3, 3, 3), (94, 4, 4, 3), (94, 5, 5, 3), (94, 6, 6, 3), (94, 7, 7, 4), (95, 0, 0, 94), (95, 1, 8, 3), (95, 2, 9, 3), (96, 0, 0, 94), (96, 1, 8, 3), (96, 2, 9, 3), (106, 0, 0, 22), (107, 0, 0, 22), (111, 0, 0, 3), (111, 1, 1, 3), (112, 0, 0, 3), (112, 1, 1, 3)]
    arr := [(138, 6, 3), (142, 7, 3)]
    eqs := [41, 42, 59, 60, 111, 112] }
def cfg : Cfg U := tb.cfg K
theorem varOk : tb.var.all (varB Try.prog) = true := by kernel_rfl
theorem slOk : tb.sl.all (slB Try.prog tb.el) = true := by kernel_rfl
theorem fldOk : tb.fld.all (fldB Try.prog) = true := by kernel_rfl
theorem arrOk : tb.arr.all (arrB Try.prog) = true := by kernel_rfl
theorem elOk : ∀ t, elB Try.prog K tb t = true := by
  intro t
  cases t
  · kernel_rfl
  · kernel_rfl
  · kernel_rfl
  · kernel_rfl
  · kernel_rfl
  · kernel_rfl
  · kernel_rfl
  · kernel_rfl
  · kernel_rfl
  · kernel_rfl
  · kernel_rfl
theorem cfgOk : CfgOk Try.prog cfg := tables_ok K_ok varOk slOk fldOk arrOk elOk (by kernel_rfl) (by kernel_rfl)
end Go.AM.Ythokdjgpdonhgaa


namespace Go.AM.Ythokdjgpdonhgaa
open Go.AM Go.Proofs

def args56 : ArgL (Int × Unit) := (.cons (aInt .i64) .nil)
def pre56 (a : Int × Unit) : Prop := True
noncomputable def res56 (a : Int × Unit) : V U := .c (.int .i64 (wd a.1))
noncomputable def spec56 : Fs U := fs args56 (fun a => [pre56 a]) res56

def args110 : ArgL (Int × Unit) := (.cons (aInt .i64) .nil)
def pre110 (a : Int × Unit) : Prop := True
noncomputable def res110 (a : Int × Unit) : V U := .tup [(false, [.int .i64 (if wd a.1 < 0 then 0 else wd a.1)]), (false, [.bool (decide (0 ≤ wd a.1))])]
noncomputable def spec110 : Fs U := fs args110 (fun a => [pre110 a]) res110

def args83 : ArgL (Int × Unit) := (.cons (aInt .i64) .nil)
def pre83 (a : Int × Unit) : Prop := True
noncomputable def res83 (a : Int × Unit) : V U := .tup [(false, [.int .i64 (if wd a.1 < 0 then 0 else wd a.1)]), (false, [.bool (decide (0 ≤ wd a.1))])]
noncomputable def spec83 : Fs U := fs args83 (fun a => [pre83 a]) res83

def args93 : ArgL (List Int × Int × Unit) := (.cons (aSl .u64) (.cons (aInt .i64) .nil))
def pre93 (a : List Int × Int × Unit) : Prop := okW a.1 ∧ a.2.1 ≤ 4611686018427387904
noncomputable def res93 (a : List Int × Int × Unit) : V U := .c (.int .u64 (bitW a.1 a.2.1))
noncomputable def spec93 : Fs U := fs args93 (fun a => [pre93 a]) res93

def args69 : ArgL (List Int × Int × Int × Unit) := (.cons (aSl .u64) (.cons (aInt .i64) (.cons (aInt .i64) .nil)))
def pre69 (a : List Int × Int × Int × Unit) : Prop := okW a.1
noncomputable def res69 (a : List Int × Int × Int × Unit) : V U := .c (.int .u64 (getW a.1 a.2.1 a.2.2.1))
noncomputable def spec69 : Fs U := fs args69 (fun a => [pre69 a]) res69

def args84 : ArgL (List Int × Int × Int × Unit) := (.cons (aSl .u64) (.cons (aInt .i64) (.cons (aInt .i64) .nil)))
def pre84 (a : List Int × Int × Int × Unit) : Prop := okW a.1
noncomputable def res84 (a : List Int × Int × Int × Unit) : V U := .c (.int .u64 (getW a.1 a.2.1 a.2.2.1))
noncomputable def spec84 : Fs U := fs args84 (fun a => [pre84 a]) res84

def args92 : ArgL (Int × Int × Int × Unit) := (.cons (aInt .u64) (.cons (aInt .i64) (.cons (aInt .i64) .nil)))
def pre92 (a : Int × Int × Int × Unit) : Prop := (0 ≤ a.1 ∧ a.1 < 18446744073709551616) ∧ 0 ≤ a.2.1 ∧ a.2.1 ≤ 64 ∧ 0 ≤ a.2.2.1 ∧ a.2.2.1 ≤ 32
noncomputable def res92 (a : Int × Int × Int × Unit) : V U := .c (.int .i64 (fieldP a.1 a.2.1 a.2.2.1))
noncomputable def spec92 : Fs U := fs args92 (fun a => [pre92 a]) res92

def args66 : ArgL (Int × Unit) := (.cons (aInt .u64) .nil)
def pre66 (a : Int × Unit) : Prop := (0 ≤ a.1 ∧ a.1 < 18446744073709551616)
noncomputable def res66 (a : Int × Unit) : V U := .agg [.int .i64 (Ptr.kind (decP a.1)), .int .i64 (Ptr.off (decP a.1)), .int .i64 (Ptr.data (decP a.1)), .int .i64 (Ptr.ptrs (decP a.1)), .int .i64 (Ptr.code (decP a.1)), .int .i64 (Ptr.count (decP a.1)), .int .i64 (Ptr.segment (decP a.1)), .bool (Ptr.double (decP a.1))]
noncomputable def spec66 : Fs U := fs args66 (fun a => [pre66 a]) res66

def args86 : ArgL (Int × Unit) := (.cons (aInt .u64) .nil)
def pre86 (a : Int × Unit) : Prop := (0 ≤ a.1 ∧ a.1 < 18446744073709551616)
noncomputable def res86 (a : Int × Unit) : V U := .agg [.int .i64 (Ptr.kind (decP a.1)), .int .i64 (Ptr.off (decP a.1)), .int .i64 (Ptr.data (decP a.1)), .int .i64 (Ptr.ptrs (decP a.1)), .int .i64 (Ptr.code (decP a.1)), .int .i64 (Ptr.count (decP a.1)), .int .i64 (Ptr.segment (decP a.1)), .bool (Ptr.double (decP a.1))]
noncomputable def spec86 : Fs U := fs args86 (fun a => [pre86 a]) res86

def args115 : ArgL (Ptr × Unit) := (.cons (aEl .ptr) .nil)
def pre115 (a : Ptr × Unit) : Prop := OkP a.1
noncomputable def res115 (a : Ptr × Unit) : V U := .c (.int .i64 (wordsP a.1))
noncomputable def spec115 : Fs U := fs args115 (fun a => [pre115 a]) res115

def args124 : ArgL (Int × Int × Unit) := (.cons (aInt .i64) (.cons (aInt .i64) .nil))
def pre124 (a : Int × Int × Unit) : Prop := True
noncomputable def res124 (a : Int × Int × Unit) : V U := .c (.bool (decide (0 ≤ a.1 ∧ a.1 ≤ a.2.1)))
noncomputable def spec124 : Fs U := fs args124 (fun a => [pre124 a]) res124

def args122 : ArgL (Ptr × Unit) := (.cons (aEl .ptr) .nil)
def pre122 (a : Ptr × Unit) : Prop := OkP a.1
noncomputable def res122 (a : Ptr × Unit) : V U := .tup [(false, [.int .i64 (if wordsP a.1 < 0 then 0 else wordsP a.1)]), (false, [.bool (decide (0 ≤ wordsP a.1))])]
noncomputable def spec122 : Fs U := fs args122 (fun a => [pre122 a]) res122

noncomputable def know56 : List (FuncId × Fs U) := []
def lv56 : Lives U := fun i => match i with
  | 0 => ([(0, [])], [])
  | 1 => ([(3, [])], [])
  | 2 => ([(3, []), (4, [])], [])
  | 3 => ([(2, [])], [])
  | 4 => ([(3, []), (6, [])], [])
  | 5 => ([(2, [])], [])
  | 6 => ([(3, []), (8, [])], [])
  | 7 => ([(2, [])], [])
  | 8 => ([(3, []), (10, [])], [])
  | 9 => ([(2, [])], [])
  | 10 => ([(3, []), (12, [])], [])
  | 11 => ([(2, [])], [])
  | 12 => ([(14, [])], [])
  | 13 => ([(2, [])], [])
  | 14 => ([(2, [])], [])
  | _ => ([], [])
noncomputable abbrev A56 (p : List Nat) := awp cfg (know know56) (drawOk cfg (know know56)) Try.f56.ntmps lv56 (cd Try.f56 p)
theorem vc56 (c : Int) (Q : AExit → LSt U → Prop) (h : ((((((c : Int) == 0) = true → (Q .ret (⟨[(2, .c (.int .i64 0))], [], []⟩ : LSt U))) ∧ (((c : Int) == 0) = false → ((((c : Int) == 1) = true → (Q .ret (⟨[(2, .c (.int .i64 1))], [], []⟩ : LSt U))) ∧ (((c : Int) == 1) = false → ((((c : Int) == 2) = true → (Q .ret (⟨[(2, .c (.int .i64 8))], [], []⟩ : LSt U))) ∧ (((c : Int) == 2) = false → ((((c : Int) == 3) = true → (Q .ret (⟨[(2, .c (.int .i64 16))], [], []⟩ : LSt U))) ∧ (((c : Int) == 3) = false → ((((c : Int) == 4) = true → (Q .ret (⟨[(2, .c (.int .i64 32))], [], []⟩ : LSt U))) ∧ (((c : Int) == 4) = false → ((((c : Int) == 5) = true → (Q .ret (⟨[(2, .c (.int .i64 64))], [], []⟩ : LSt U))) ∧ (((c : Int) == 5) = false → (Q .ret (⟨[(2, .c (.int .i64 (-1)))], [], []⟩ : LSt U))))))))))))))))) :
    A56 [] (⟨[(0, .c (.int .i64 c))], [], []⟩ : LSt U) Q :=
  Eq.mpr (by kernel_rfl) h
def Body56 (c : Int)  : Prop := awp cfg (know (know56)) (drawOk cfg (know (know56))) Try.f56.ntmps lv56 (cd Try.f56 []) (entry (args56.can (c, ())) []) (EndsQ cfg Try.f56.ntmps Try.f56.results.toList (res56 (c, ())) [])
theorem make56 (hb : ∀ (c : Int) (_ : Unit), pre56 (c, ()) → Body56 c) : Contract Try.prog cfg 56 spec56 :=
  contract_flat (l := []) cfgOk rfl (trivial) lv56 Try.func56 rfl rfl 1 (fun _ => rfl) (by decide) (fun ⟨c, _⟩ => hb c ())

noncomputable def know110 : List (FuncId × Fs U) := []
def lv110 : Lives U := fun i => match i with
  | 0 => ([(0, [])], [])
  | 1 => ([(0, []), (4, [])], [((.loc 4), [])])
  | 2 => ([(0, []), (4, []), (11, [])], [((.loc 4), [])])
  | 3 => ([(2, []), (3, [])], [])
  | 4 => ([(2, []), (3, [])], [])
  | _ => ([], [])
noncomputable abbrev A110 (p : List Nat) := awp cfg (know know110) (drawOk cfg (know know110)) Try.f110.ntmps lv110 (cd Try.f110 p)
theorem vc110 (c : Int) (Q : AExit → LSt U → Prop) (h : (((Tr ((!(decide ((c : Int) < 0))) = true)) ∧ (((decide ((c : Int) < 0)) = false → (!(decide ((c : Int) < 0))) = true)) ∧ (((bif (decide ((c : Int) < 0)) then true else (decide ((6 : Int) ≤ c))) = true → (Q .ret (⟨[(2, .c (.int .i64 0)), (3, .c (.bool false))], [], []⟩ : LSt U))) ∧ ((bif (decide ((c : Int) < 0)) then true else (decide ((6 : Int) ≤ c))) = false → ((0 : Int) ≤ c ∧ c < ((6 : Nat) : Int)) ∧ (Q .ret (⟨[(2, .c (.int .i64 (List.getD [0, 1, 8, 16, 32, 64] (Int.toNat c) 0))), (3, .c (.bool true))], [], []⟩ : LSt U))))))) :
    A110 [] (⟨[(0, .c (.int .i64 c))], [], []⟩ : LSt U) Q :=
  Eq.mpr (by kernel_rfl) h
def Body110 (c : Int)  : Prop := awp cfg (know (know110)) (drawOk cfg (know (know110))) Try.f110.ntmps lv110 (cd Try.f110 []) (entry (args110.can (c, ())) []) (EndsQ cfg Try.f110.ntmps Try.f110.results.toList (res110 (c, ())) [])
theorem make110 (hb : ∀ (c : Int) (_ : Unit), pre110 (c, ()) → Body110 c) : Contract Try.prog cfg 110 spec110 :=
  contract_flat (l := []) cfgOk rfl (trivial) lv110 Try.func110 rfl rfl 1 (fun _ => rfl) (by decide) (fun ⟨c, _⟩ => hb c ())

noncomputable def know83 : List (FuncId × Fs U) := [(110, spec110)]
def lv83 : Lives U := fun i => match i with
  | 0 => ([(0, [])], [])
  | 1 => ([(2, []), (3, [])], [])
  | _ => ([], [])
noncomputable abbrev A83 (p : List Nat) := awp cfg (know know83) (drawOk cfg (know know83)) Try.f83.ntmps lv83 (cd Try.f83 p)
theorem vc83 (c : Int) (Q : AExit → LSt U → Prop) (h : ((pre110 (c, ())) ∧ (Q .ret (⟨[(2, .c (.int .i64 (if wd c < 0 then 0 else wd c))), (3, .c (.bool (decide (0 ≤ wd c))))], [], []⟩ : LSt U)))) :
    A83 [] (⟨[(0, .c (.int .i64 c))], [], []⟩ : LSt U) Q :=
  Eq.mpr (by kernel_rfl) h
def Body83 (c : Int)  : Prop := awp cfg (know (know83)) (drawOk cfg (know (know83))) Try.f83.ntmps lv83 (cd Try.f83 []) (entry (args83.can (c, ())) []) (EndsQ cfg Try.f83.ntmps Try.f83.results.toList (res83 (c, ())) [])
theorem make83 (c110 : Contract Try.prog cfg 110 spec110) (hb : ∀ (c : Int) (_ : Unit), pre83 (c, ()) → Body83 c) : Contract Try.prog cfg 83 spec83 :=
  contract_flat (l := [(110, spec110)]) cfgOk rfl (⟨c110, trivial⟩) lv83 Try.func83 rfl rfl 1 (fun _ => rfl) (by decide) (fun ⟨c, _⟩ => hb c ())

noncomputable def know93 : List (FuncId × Fs U) := []
def lv93 : Lives U := fun i => match i with
  | 0 => ([(0, []), (1, [])], [])
  | 1 => ([(0, []), (1, []), (15, [])], [])
  | 2 => ([(4, [])], [])
  | 3 => ([(1, []), (5, [])], [])
  | 4 => ([(1, []), (5, []), (6, [])], [])
  | 5 => ([(1, []), (5, []), (6, []), (24, [])], [])
  | 6 => ([(1, []), (5, []), (6, [])], [])
  | 7 => ([(1, []), (5, []), (6, [])], [])
  | 8 => ([(4, [])], [])
  | _ => ([], [])
noncomputable def head93_0 (l : List Int) (a : Int) (x5 : Int) (x6 : Int) : LSt U := (⟨[(1, .c (.int .i64 a)), (5, .c (.int .u64 x5)), (6, .c (.int .i64 x6))], [], []⟩ : LSt U)
noncomputable abbrev A93 (p : List Nat) := awp cfg (know know93) (drawOk cfg (know know93)) Try.f93.ntmps lv93 (cd Try.f93 p)
noncomputable abbrev S93 (p : List Nat) := seqK cfg (know know93) (drawOk cfg (know know93)) Try.f93.ntmps lv93 (cd Try.f93 p)
theorem vc93 (l : List Int) (a : Int) (Q : AExit → LSt U → Prop) (h : ((Tr ((!(decide ((a : Int) < 0))) = true)) ∧ ((!(decide ((a : Int) < 0))) = true → (64 : Int) ≠ 0) ∧ (Tr ((!(decide ((a : Int) < 0))) = true)) ∧ (Tr ((!(decide ((a : Int) < 0))) = true)) ∧ (Tr ((!(decide ((a : Int) < 0))) = true)) ∧ (((decide ((a : Int) < 0)) = false → (!(decide ((a : Int) < 0))) = true)) ∧ (((bif (decide ((a : Int) < 0)) then true else (decide (((l.length : Int) : Int) ≤ (IntKind.wrap .i64 (Int.tdiv a 64))))) = true → (Q .ret (⟨[(4, .c (.int .u64 0))], [], []⟩ : LSt U))) ∧ ((bif (decide ((a : Int) < 0)) then true else (decide (((l.length : Int) : Int) ≤ (IntKind.wrap .i64 (Int.tdiv a 64))))) = false → ((64 : Int) ≠ 0) ∧ ((0 : Int) ≤ (IntKind.wrap .i64 (Int.tdiv a 64)) ∧ (IntKind.wrap .i64 (Int.tdiv a 64)) < (l.length : Int)) ∧ ((LoopWp (A93 [1, 1, 1, 0, 1, 0, 0]) (head93_0 l a (List.getD l (Int.toNat (IntKind.wrap .i64 (Int.tdiv a 64))) (0 : Int)) 0) (AExit.inBlock 0 (S93 [1, 1, 1, 1] Q)))))))) :
    A93 [] (⟨[(0, .c (.slice (U := U) .u64 l .unk)), (1, .c (.int .i64 a))], [], []⟩ : LSt U) Q :=
  Eq.mpr (by kernel_rfl) h
theorem vc93_l0 (l : List Int) (a : Int) (x5 : Int) (x6 : Int) (N0 : LSt U → Prop) (Q : AExit → LSt U → Prop) (h : ((64 : Int) ≠ 0) ∧ (((decide ((x6 : Int) < (Int.tmod a 64))) = true → ((2 : Int) ≠ 0) ∧ ((InR ((x6 : Int) + 1)) ∧ (N0 (head93_0 l a (IntKind.wrap .u64 (Int.tdiv x5 2)) ((x6 : Int) + 1))))) ∧ ((decide ((x6 : Int) < (Int.tmod a 64))) = false → ((2 : Int) ≠ 0) ∧ (Q .ret (⟨[(4, .c (.int .u64 (Int.tmod x5 2)))], [], []⟩ : LSt U))))) :
    A93 [1, 1, 1, 0, 1, 0, 0] (head93_0 l a x5 x6) (AExit.then N0 (AExit.inBlock 0 (S93 [1, 1, 1, 1] Q))) :=
  Eq.mpr (by kernel_rfl) h
def Body93 (l : List Int) (a : Int)  : Prop := awp cfg (know (know93)) (drawOk cfg (know (know93))) Try.f93.ntmps lv93 (cd Try.f93 []) (entry (args93.can (l, a, ())) []) (EndsQ cfg Try.f93.ntmps Try.f93.results.toList (res93 (l, a, ())) [])
theorem make93 (hb : ∀ (l : List Int) (a : Int) (_ : Unit), pre93 (l, a, ()) → Body93 l a) : Contract Try.prog cfg 93 spec93 :=
  contract_flat (l := []) cfgOk rfl (trivial) lv93 Try.func93 rfl rfl 2 (fun _ => rfl) (by decide) (fun ⟨l, a, _⟩ => hb l a ())

noncomputable def know69 : List (FuncId × Fs U) := [(56, spec56), (93, spec93)]
def lv69 : Lives U := fun i => match i with
  | 0 => ([(0, []), (1, []), (2, [])], [])
  | 1 => ([(0, []), (2, []), (7, [])], [])
  | 2 => ([(0, []), (2, []), (7, []), (21, [])], [])
  | 3 => ([(6, [])], [])
  | 4 => ([(0, []), (2, []), (7, []), (8, [])], [])
  | 5 => ([(0, []), (2, []), (7, []), (8, []), (9, [])], [])
  | 6 => ([(0, []), (2, []), (7, []), (8, []), (9, []), (25, [])], [])
  | 7 => ([(0, []), (2, []), (7, []), (8, []), (9, [])], [])
  | 8 => ([(0, []), (2, []), (7, []), (8, []), (9, [])], [])
  | 9 => ([(6, [])], [])
  | _ => ([], [])
noncomputable def head69_0 (l : List Int) (c : Int) (i : Int) (x8 : Int) (x9 : Int) : LSt U := (⟨[(0, .c (.slice (U := U) .u64 l .unk)), (2, .c (.int .i64 i)), (7, .c (.int .i64 (wd c))), (8, .c (.int .u64 x8)), (9, .c (.int .i64 x9))], [], []⟩ : LSt U)
noncomputable abbrev A69 (p : List Nat) := awp cfg (know know69) (drawOk cfg (know know69)) Try.f69.ntmps lv69 (cd Try.f69 p)
noncomputable abbrev S69 (p : List Nat) := seqK cfg (know know69) (drawOk cfg (know know69)) Try.f69.ntmps lv69 (cd Try.f69 p)
theorem vc69 (l : List Int) (c : Int) (i : Int) (Q : AExit → LSt U → Prop) (h : ((pre56 (c, ())) ∧ ((Tr ((!(decide (((wd c) : Int) < 1))) = true)) ∧ (((decide (((wd c) : Int) < 1)) = false → (!(decide (((wd c) : Int) < 1))) = true)) ∧ (Tr ((!(bif (decide (((wd c) : Int) < 1)) then true else (decide ((i : Int) < 0)))) = true)) ∧ (((bif (decide (((wd c) : Int) < 1)) then true else (decide ((i : Int) < 0))) = false → (!(bif (decide (((wd c) : Int) < 1)) then true else (decide ((i : Int) < 0)))) = true)) ∧ (((bif (bif (decide (((wd c) : Int) < 1)) then true else (decide ((i : Int) < 0))) then true else (decide ((1099511627776 : Int) < i))) = true → (Q .ret (⟨[(6, .c (.int .u64 0))], [], []⟩ : LSt U))) ∧ ((bif (bif (decide (((wd c) : Int) < 1)) then true else (decide ((i : Int) < 0))) then true else (decide ((1099511627776 : Int) < i))) = false → ((InR (((wd c) : Int) - 1)) ∧ (LoopWp (A69 [1, 1, 1, 1, 0, 1, 0, 0]) (head69_0 l c i 0 (((wd c) : Int) - 1)) (AExit.inBlock 0 (S69 [1, 1, 1, 1, 1] Q))))))))) :
    A69 [] (⟨[(0, .c (.slice (U := U) .u64 l .unk)), (1, .c (.int .i64 c)), (2, .c (.int .i64 i))], [], []⟩ : LSt U) Q :=
  Eq.mpr (by kernel_rfl) h
theorem vc69_l0 (l : List Int) (c : Int) (i : Int) (x8 : Int) (x9 : Int) (N0 : LSt U → Prop) (Q : AExit → LSt U → Prop) (h : (((decide ((0 : Int) ≤ x9)) = true → (InR ((i : Int) * (wd c))) ∧ (InR ((((i : Int) * (wd c)) : Int) + x9)) ∧ (pre93 (l, ((((i : Int) * (wd c)) : Int) + x9), ())) ∧ ((InR ((x9 : Int) - 1)) ∧ (N0 (head69_0 l c i (IntKind.wrap .u64 (((IntKind.wrap .u64 ((x8 : Int) * 2)) : Int) + (bitW l ((((i : Int) * (wd c)) : Int) + x9)))) ((x9 : Int) - 1))))) ∧ ((decide ((0 : Int) ≤ x9)) = false → (Q .ret (⟨[(6, .c (.int .u64 x8))], [], []⟩ : LSt U))))) :
    A69 [1, 1, 1, 1, 0, 1, 0, 0] (head69_0 l c i x8 x9) (AExit.then N0 (AExit.inBlock 0 (S69 [1, 1, 1, 1, 1] Q))) :=
  Eq.mpr (by kernel_rfl) h
def Body69 (l : List Int) (c : Int) (i : Int)  : Prop := awp cfg (know (know69)) (drawOk cfg (know (know69))) Try.f69.ntmps lv69 (cd Try.f69 []) (entry (args69.can (l, c, i, ())) []) (EndsQ cfg Try.f69.ntmps Try.f69.results.toList (res69 (l, c, i, ())) [])
theorem make69 (c56 : Contract Try.prog cfg 56 spec56) (c93 : Contract Try.prog cfg 93 spec93) (hb : ∀ (l : List Int) (c : Int) (i : Int) (_ : Unit), pre69 (l, c, i, ()) → Body69 l c i) : Contract Try.prog cfg 69 spec69 :=
  contract_flat (l := [(56, spec56), (93, spec93)]) cfgOk rfl (⟨c56, c93, trivial⟩) lv69 Try.func69 rfl rfl 3 (fun _ => rfl) (by decide) (fun ⟨l, c, i, _⟩ => hb l c i ())

noncomputable def know84 : List (FuncId × Fs U) := [(110, spec110)]
def lv84 : Lives U := fun i => match i with
  | 0 => ([(0, []), (1, []), (2, [])], [])
  | 1 => ([(0, []), (2, []), (7, []), (8, [])], [])
  | 2 => ([(0, []), (2, []), (7, []), (37, [])], [])
  | 3 => ([(6, [])], [])
  | 4 => ([(7, []), (9, [])], [])
  | 5 => ([(7, []), (9, []), (51, [])], [])
  | 6 => ([(6, [])], [])
  | 7 => ([(6, [])], [])
  | _ => ([], [])
noncomputable abbrev A84 (p : List Nat) := awp cfg (know know84) (drawOk cfg (know know84)) Try.f84.ntmps lv84 (cd Try.f84 p)
theorem vc84 (l : List Int) (c : Int) (i : Int) (Q : AExit → LSt U → Prop) (h : ∀ y_1, y_1 = (IntKind.wrap .i64 (Int.tdiv ((i : Int) * (if wd c < 0 then 0 else wd c)) 64)) → ((pre110 (c, ())) ∧ ((Tr ((!(!(decide (0 ≤ wd c)))) = true)) ∧ (((!(decide (0 ≤ wd c))) = false → (!(!(decide (0 ≤ wd c)))) = true)) ∧ (Tr ((!(bif (!(decide (0 ≤ wd c))) then true else (((if wd c < 0 then 0 else wd c) : Int) == 0))) = true)) ∧ (((bif (!(decide (0 ≤ wd c))) then true else (((if wd c < 0 then 0 else wd c) : Int) == 0)) = false → (!(bif (!(decide (0 ≤ wd c))) then true else (((if wd c < 0 then 0 else wd c) : Int) == 0))) = true)) ∧ (Tr ((!(bif (bif (!(decide (0 ≤ wd c))) then true else (((if wd c < 0 then 0 else wd c) : Int) == 0)) then true else (decide ((i : Int) < 0)))) = true)) ∧ (((bif (bif (!(decide (0 ≤ wd c))) then true else (((if wd c < 0 then 0 else wd c) : Int) == 0)) then true else (decide ((i : Int) < 0))) = false → (!(bif (bif (!(decide (0 ≤ wd c))) then true else (((if wd c < 0 then 0 else wd c) : Int) == 0)) then true else (decide ((i : Int) < 0)))) = true)) ∧ (Tr ((!(bif (bif (bif (!(decide (0 ≤ wd c))) then true else (((if wd c < 0 then 0 else wd c) : Int) == 0)) then true else (decide ((i : Int) < 0))) then true else (decide ((1099511627776 : Int) < i)))) = true)) ∧ (Tr ((!(bif (bif (bif (!(decide (0 ≤ wd c))) then true else (((if wd c < 0 then 0 else wd c) : Int) == 0)) then true else (decide ((i : Int) < 0))) then true else (decide ((1099511627776 : Int) < i)))) = true)) ∧ ((!(bif (bif (bif (!(decide (0 ≤ wd c))) then true else (((if wd c < 0 then 0 else wd c) : Int) == 0)) then true else (decide ((i : Int) < 0))) then true else (decide ((1099511627776 : Int) < i)))) = true → InR ((i : Int) * (if wd c < 0 then 0 else wd c))) ∧ (Tr ((!(bif (bif (bif (!(decide (0 ≤ wd c))) then true else (((if wd c < 0 then 0 else wd c) : Int) == 0)) then true else (decide ((i : Int) < 0))) then true else (decide ((1099511627776 : Int) < i)))) = true)) ∧ ((!(bif (bif (bif (!(decide (0 ≤ wd c))) then true else (((if wd c < 0 then 0 else wd c) : Int) == 0)) then true else (decide ((i : Int) < 0))) then true else (decide ((1099511627776 : Int) < i)))) = true → (64 : Int) ≠ 0) ∧ (Tr ((!(bif (bif (bif (!(decide (0 ≤ wd c))) then true else (((if wd c < 0 then 0 else wd c) : Int) == 0)) then true else (decide ((i : Int) < 0))) then true else (decide ((1099511627776 : Int) < i)))) = true)) ∧ (Tr ((!(bif (bif (bif (!(decide (0 ≤ wd c))) then true else (((if wd c < 0 then 0 else wd c) : Int) == 0)) then true else (decide ((i : Int) < 0))) then true else (decide ((1099511627776 : Int) < i)))) = true)) ∧ (Tr ((!(bif (bif (bif (!(decide (0 ≤ wd c))) then true else (((if wd c < 0 then 0 else wd c) : Int) == 0)) then true else (decide ((i : Int) < 0))) then true else (decide ((1099511627776 : Int) < i)))) = true)) ∧ (((bif (bif (bif (!(decide (0 ≤ wd c))) then true else (((if wd c < 0 then 0 else wd c) : Int) == 0)) then true else (decide ((i : Int) < 0))) then true else (decide ((1099511627776 : Int) < i))) = false → (!(bif (bif (bif (!(decide (0 ≤ wd c))) then true else (((if wd c < 0 then 0 else wd c) : Int) == 0)) then true else (decide ((i : Int) < 0))) then true else (decide ((1099511627776 : Int) < i)))) = true)) ∧ (((bif (bif (bif (bif (!(decide (0 ≤ wd c))) then true else (((if wd c < 0 then 0 else wd c) : Int) == 0)) then true else (decide ((i : Int) < 0))) then true else (decide ((1099511627776 : Int) < i))) then true else (decide (((l.length : Int) : Int) ≤ y_1))) = true → (Q .ret (⟨[(6, .c (.int .u64 0))], [], []⟩ : LSt U))) ∧ ((bif (bif (bif (bif (!(decide (0 ≤ wd c))) then true else (((if wd c < 0 then 0 else wd c) : Int) == 0)) then true else (decide ((i : Int) < 0))) then true else (decide ((1099511627776 : Int) < i))) then true else (decide (((l.length : Int) : Int) ≤ y_1))) = false → (InR ((i : Int) * (if wd c < 0 then 0 else wd c))) ∧ ((64 : Int) ≠ 0) ∧ ((0 : Int) ≤ y_1 ∧ y_1 < (l.length : Int)) ∧ (InR ((i : Int) * (if wd c < 0 then 0 else wd c))) ∧ ((64 : Int) ≠ 0) ∧ ((0 : Int) ≤ (Int.tmod ((i : Int) * (if wd c < 0 then 0 else wd c)) 64)) ∧ ((((((if wd c < 0 then 0 else wd c) : Int) == 64) = true → (Q .ret (⟨[(6, .c (.int .u64 (Int.fdiv (List.getD l (Int.toNat y_1) (0 : Int)) (2 ^ (min (Int.toNat (Int.tmod ((i : Int) * (if wd c < 0 then 0 else wd c)) 64)) (IntKind.bits .u64))))))], [], []⟩ : LSt U))) ∧ ((((if wd c < 0 then 0 else wd c) : Int) == 64) = false → ((0 : Int) ≤ (if wd c < 0 then 0 else wd c)) ∧ (Q .ret (⟨[(6, .c (.int .u64 (IntKind.wrap .u64 (BitVec.ofInt (IntKind.bits .u64) (Int.fdiv (List.getD l (Int.toNat y_1) (0 : Int)) (2 ^ (min (Int.toNat (Int.tmod ((i : Int) * (if wd c < 0 then 0 else wd c)) 64)) (IntKind.bits .u64)))) &&& BitVec.ofInt (IntKind.bits .u64) (IntKind.wrap .u64 (((IntKind.wrap .u64 ((1 : Int) * 2 ^ (min (Int.toNat (if wd c < 0 then 0 else wd c)) (IntKind.bits .u64)))) : Int) - 1))).toNat)))], [], []⟩ : LSt U)))))))))) :
    A84 [] (⟨[(0, .c (.slice (U := U) .u64 l .unk)), (1, .c (.int .i64 c)), (2, .c (.int .i64 i))], [], []⟩ : LSt U) Q :=
  Eq.mpr (by kernel_rfl) (h _ rfl)
def Body84 (l : List Int) (c : Int) (i : Int)  : Prop := awp cfg (know (know84)) (drawOk cfg (know (know84))) Try.f84.ntmps lv84 (cd Try.f84 []) (entry (args84.can (l, c, i, ())) []) (EndsQ cfg Try.f84.ntmps Try.f84.results.toList (res84 (l, c, i, ())) [])
theorem make84 (c110 : Contract Try.prog cfg 110 spec110) (hb : ∀ (l : List Int) (c : Int) (i : Int) (_ : Unit), pre84 (l, c, i, ()) → Body84 l c i) : Contract Try.prog cfg 84 spec84 :=
  contract_flat (l := [(110, spec110)]) cfgOk rfl (⟨c110, trivial⟩) lv84 Try.func84 rfl rfl 3 (fun _ => rfl) (by decide) (fun ⟨l, c, i, _⟩ => hb l c i ())

noncomputable def know92 : List (FuncId × Fs U) := []
def lv92 : Lives U := fun i => match i with
  | 0 => ([(0, []), (1, []), (2, [])], [])
  | 1 => ([(0, []), (1, []), (2, []), (7, [])], [])
  | 2 => ([(0, []), (1, []), (2, []), (7, []), (13, [])], [])
  | 3 => ([(0, []), (1, []), (2, []), (7, [])], [])
  | 4 => ([(0, []), (1, []), (2, []), (7, [])], [])
  | 5 => ([(0, []), (2, []), (8, []), (9, [])], [])
  | 6 => ([(0, []), (2, []), (8, []), (9, []), (10, [])], [])
  | 7 => ([(0, []), (2, []), (8, []), (9, []), (10, []), (20, [])], [])
  | 8 => ([(0, []), (2, []), (8, []), (9, []), (10, [])], [])
  | 9 => ([(0, []), (2, []), (8, []), (9, []), (10, []), (25, [])], [])
  | 10 => ([(0, []), (2, []), (8, []), (9, []), (10, [])], [])
  | 11 => ([(0, []), (2, []), (8, []), (9, []), (10, [])], [])
  | 12 => ([(0, []), (2, []), (8, []), (9, []), (10, [])], [])
  | 13 => ([(6, [])], [])
  | _ => ([], [])
noncomputable def head92_0 (w : Int) (b : Int) (k : Int) (x0 : Int) (x7 : Int) : LSt U := (⟨[(0, .c (.int .u64 x0)), (1, .c (.int .i64 b)), (2, .c (.int .i64 k)), (7, .c (.int .i64 x7))], [], []⟩ : LSt U)
noncomputable def head92_1 (w : Int) (b : Int) (k : Int) (x0_a : Int) (x8_a : Int) (x9_a : Int) (x10_a : Int) : LSt U := (⟨[(0, .c (.int .u64 x0_a)), (2, .c (.int .i64 k)), (8, .c (.int .i64 x8_a)), (9, .c (.int .i64 x9_a)), (10, .c (.int .i64 x10_a))], [], []⟩ : LSt U)
noncomputable abbrev A92 (p : List Nat) := awp cfg (know know92) (drawOk cfg (know know92)) Try.f92.ntmps lv92 (cd Try.f92 p)
noncomputable abbrev S92 (p : List Nat) := seqK cfg (know know92) (drawOk cfg (know know92)) Try.f92.ntmps lv92 (cd Try.f92 p)
theorem vc92 (w : Int) (b : Int) (k : Int) (Q : AExit → LSt U → Prop) (h : ((LoopWp (A92 [1, 0, 1, 0, 0]) (head92_0 w b k w 0) (AExit.inBlock 0 (S92 [1, 1] Q))))) :
    A92 [] (⟨[(0, .c (.int .u64 w)), (1, .c (.int .i64 b)), (2, .c (.int .i64 k))], [], []⟩ : LSt U) Q :=
  Eq.mpr (by kernel_rfl) h
theorem vc92_l0 (w : Int) (b : Int) (k : Int) (x0 : Int) (x7 : Int) (N0 : LSt U → Prop) (Q : AExit → LSt U → Prop) (h : (((decide ((x7 : Int) < b)) = true → ((2 : Int) ≠ 0) ∧ ((InR ((x7 : Int) + 1)) ∧ (N0 (head92_0 w b k (IntKind.wrap .u64 (Int.tdiv x0 2)) ((x7 : Int) + 1))))) ∧ ((decide ((x7 : Int) < b)) = false → ((LoopWp (A92 [1, 1, 1, 0, 1, 0, 0]) (head92_1 w b k x0 0 1 0) (AExit.inBlock 2 (S92 [1, 1, 1, 1] Q))))))) :
    A92 [1, 0, 1, 0, 0] (head92_0 w b k x0 x7) (AExit.then N0 (AExit.inBlock 0 (S92 [1, 1] Q))) :=
  Eq.mpr (by kernel_rfl) h
theorem vc92_l1 (w : Int) (b : Int) (k : Int) (x0_a : Int) (x8_a : Int) (x9_a : Int) (x10_a : Int) (N1 : LSt U → Prop) (Q : AExit → LSt U → Prop) (h : (((decide ((x10_a : Int) < k)) = true → ((2 : Int) ≠ 0) ∧ (((((Int.tmod x0_a 2) : Int) == 1) = true → (InR ((x8_a : Int) + x9_a)) ∧ (((2 : Int) ≠ 0) ∧ ((InR ((2 : Int) * x9_a)) ∧ ((InR ((x10_a : Int) + 1)) ∧ (N1 (head92_1 w b k (IntKind.wrap .u64 (Int.tdiv x0_a 2)) ((x8_a : Int) + x9_a) ((2 : Int) * x9_a) ((x10_a : Int) + 1))))))) ∧ ((((Int.tmod x0_a 2) : Int) == 1) = false → ((2 : Int) ≠ 0) ∧ ((InR ((2 : Int) * x9_a)) ∧ ((InR ((x10_a : Int) + 1)) ∧ (N1 (head92_1 w b k (IntKind.wrap .u64 (Int.tdiv x0_a 2)) x8_a ((2 : Int) * x9_a) ((x10_a : Int) + 1)))))))) ∧ ((decide ((x10_a : Int) < k)) = false → (Q .ret (⟨[(6, .c (.int .i64 x8_a))], [], []⟩ : LSt U))))) :
    A92 [1, 1, 1, 0, 1, 0, 0] (head92_1 w b k x0_a x8_a x9_a x10_a) (AExit.then N1 (AExit.inBlock 2 (S92 [1, 1, 1, 1] Q))) :=
  Eq.mpr (by kernel_rfl) h
def Body92 (w : Int) (b : Int) (k : Int)  : Prop := awp cfg (know (know92)) (drawOk cfg (know (know92))) Try.f92.ntmps lv92 (cd Try.f92 []) (entry (args92.can (w, b, k, ())) []) (EndsQ cfg Try.f92.ntmps Try.f92.results.toList (res92 (w, b, k, ())) [])
theorem make92 (hb : ∀ (w : Int) (b : Int) (k : Int) (_ : Unit), pre92 (w, b, k, ()) → Body92 w b k) : Contract Try.prog cfg 92 spec92 :=
  contract_flat (l := []) cfgOk rfl (trivial) lv92 Try.func92 rfl rfl 3 (fun _ => rfl) (by decide) (fun ⟨w, b, k, _⟩ => hb w b k ())

noncomputable def know66 : List (FuncId × Fs U) := [(92, spec92)]
def lv66 : Lives U := fun i => match i with
  | 0 => ([(0, []), (2, [])], [((.loc 2), [])])
  | 1 => ([(0, []), (2, []), (5, [])], [((.loc 2), [])])
  | 2 => ([(2, [])], [((.loc 2), [])])
  | 3 => ([(0, []), (2, []), (3, [])], [((.loc 2), [])])
  | 4 => ([(0, []), (2, []), (3, []), (10, [])], [((.loc 2), [])])
  | 5 => ([(0, []), (2, []), (3, [])], [((.loc 2), [])])
  | 6 => ([(0, []), (2, []), (3, []), (14, [])], [((.loc 2), [])])
  | 7 => ([(0, []), (2, []), (3, []), (14, []), (15, [])], [((.loc 2), [])])
  | 8 => ([(2, [])], [((.loc 2), [])])
  | 9 => ([(0, []), (2, []), (3, []), (14, []), (23, [])], [((.loc 2), [])])
  | 10 => ([(2, [])], [((.loc 2), [])])
  | 11 => ([(0, []), (2, []), (31, [])], [((.loc 2), [])])
  | 12 => ([(2, [])], [((.loc 2), [])])
  | 13 => ([(2, [])], [((.loc 2), [])])
  | _ => ([], [])
noncomputable abbrev A66 (p : List Nat) := awp cfg (know know66) (drawOk cfg (know know66)) Try.f66.ntmps lv66 (cd Try.f66 p)
theorem vc66 (w : Int) (Q : AExit → LSt U → Prop) (h : (((((w : Int) == 0) = true → (Q .ret (⟨[(2, .ptr (.loc 2) 0)], [((.loc 2), [.int .i64 0, .int .i64 0, .int .i64 0, .int .i64 0, .int .i64 0, .int .i64 0, .int .i64 0, .bool false])], []⟩ : LSt U))) ∧ (((w : Int) == 0) = false → (pre92 (w, 2, 30, ())) ∧ ((((decide ((536870912 : Int) ≤ (fieldP w 2 30))) = true → (InR (((fieldP w 2 30) : Int) - 1073741824)) ∧ ((pre92 (w, 0, 2, ())) ∧ ((((((fieldP w 0 2) : Int) == 0) = true → (pre92 (w, 32, 16, ())) ∧ (pre92 (w, 48, 16, ())) ∧ (Q .ret (⟨[(2, .ptr (.loc 2) 0)], [((.loc 2), [.int .i64 1, .int .i64 (((fieldP w 2 30) : Int) - 1073741824), .int .i64 (fieldP w 32 16), .int .i64 (fieldP w 48 16), .int .i64 0, .int .i64 0, .int .i64 0, .bool false])], []⟩ : LSt U))) ∧ ((((fieldP w 0 2) : Int) == 0) = false → (((((fieldP w 0 2) : Int) == 1) = true → (pre92 (w, 32, 3, ())) ∧ (pre92 (w, 35, 29, ())) ∧ (Q .ret (⟨[(2, .ptr (.loc 2) 0)], [((.loc 2), [.int .i64 2, .int .i64 (((fieldP w 2 30) : Int) - 1073741824), .int .i64 0, .int .i64 0, .int .i64 (fieldP w 32 3), .int .i64 (fieldP w 35 29), .int .i64 0, .bool false])], []⟩ : LSt U))) ∧ ((((fieldP w 0 2) : Int) == 1) = false → (((((fieldP w 0 2) : Int) == 2) = true → (pre92 (w, 3, 29, ())) ∧ (pre92 (w, 32, 32, ())) ∧ (pre92 (w, 2, 1, ())) ∧ (Q .ret (⟨[(2, .ptr (.loc 2) 0)], [((.loc 2), [.int .i64 3, .int .i64 (fieldP w 3 29), .int .i64 0, .int .i64 0, .int .i64 0, .int .i64 0, .int .i64 (fieldP w 32 32), .bool (((fieldP w 2 1) : Int) == 1)])], []⟩ : LSt U))) ∧ ((((fieldP w 0 2) : Int) == 2) = false → (Q .ret (⟨[(2, .ptr (.loc 2) 0)], [((.loc 2), [.int .i64 4, .int .i64 0, .int .i64 0, .int .i64 0, .int .i64 0, .int .i64 0, .int .i64 0, .bool false])], []⟩ : LSt U))))))))))) ∧ ((decide ((536870912 : Int) ≤ (fieldP w 2 30))) = false → (pre92 (w, 0, 2, ())) ∧ ((((((fieldP w 0 2) : Int) == 0) = true → (pre92 (w, 32, 16, ())) ∧ (pre92 (w, 48, 16, ())) ∧ (Q .ret (⟨[(2, .ptr (.loc 2) 0)], [((.loc 2), [.int .i64 1, .int .i64 (fieldP w 2 30), .int .i64 (fieldP w 32 16), .int .i64 (fieldP w 48 16), .int .i64 0, .int .i64 0, .int .i64 0, .bool false])], []⟩ : LSt U))) ∧ ((((fieldP w 0 2) : Int) == 0) = false → (((((fieldP w 0 2) : Int) == 1) = true → (pre92 (w, 32, 3, ())) ∧ (pre92 (w, 35, 29, ())) ∧ (Q .ret (⟨[(2, .ptr (.loc 2) 0)], [((.loc 2), [.int .i64 2, .int .i64 (fieldP w 2 30), .int .i64 0, .int .i64 0, .int .i64 (fieldP w 32 3), .int .i64 (fieldP w 35 29), .int .i64 0, .bool false])], []⟩ : LSt U))) ∧ ((((fieldP w 0 2) : Int) == 1) = false → (((((fieldP w 0 2) : Int) == 2) = true → (pre92 (w, 3, 29, ())) ∧ (pre92 (w, 32, 32, ())) ∧ (pre92 (w, 2, 1, ())) ∧ (Q .ret (⟨[(2, .ptr (.loc 2) 0)], [((.loc 2), [.int .i64 3, .int .i64 (fieldP w 3 29), .int .i64 0, .int .i64 0, .int .i64 0, .int .i64 0, .int .i64 (fieldP w 32 32), .bool (((fieldP w 2 1) : Int) == 1)])], []⟩ : LSt U))) ∧ ((((fieldP w 0 2) : Int) == 2) = false → (Q .ret (⟨[(2, .ptr (.loc 2) 0)], [((.loc 2), [.int .i64 4, .int .i64 0, .int .i64 0, .int .i64 0, .int .i64 0, .int .i64 0, .int .i64 0, .bool false])], []⟩ : LSt U)))))))))))))))) :
    A66 [] (⟨[(0, .c (.int .u64 w))], [], []⟩ : LSt U) Q :=
  Eq.mpr (by kernel_rfl) h
def Body66 (w : Int)  : Prop := awp cfg (know (know66)) (drawOk cfg (know (know66))) Try.f66.ntmps lv66 (cd Try.f66 []) (entry (args66.can (w, ())) []) (EndsQ cfg Try.f66.ntmps Try.f66.results.toList (res66 (w, ())) [])
theorem make66 (c92 : Contract Try.prog cfg 92 spec92) (hb : ∀ (w : Int) (_ : Unit), pre66 (w, ()) → Body66 w) : Contract Try.prog cfg 66 spec66 :=
  contract_flat (l := [(92, spec92)]) cfgOk rfl (⟨c92, trivial⟩) lv66 Try.func66 rfl rfl 1 (fun _ => rfl) (by decide) (fun ⟨w, _⟩ => hb w ())

noncomputable def know86 : List (FuncId × Fs U) := []
def lv86 : Lives U := fun i => match i with
  | 0 => ([(0, []), (2, [])], [((.loc 2), [])])
  | 1 => ([(0, []), (2, []), (3, [])], [((.loc 2), [])])
  | 2 => ([(0, []), (2, []), (3, []), (9, [])], [((.loc 2), [])])
  | 3 => ([(2, [])], [((.loc 2), [])])
  | 4 => ([(0, []), (2, []), (3, []), (13, [])], [((.loc 2), [])])
  | 5 => ([(2, [])], [((.loc 2), [])])
  | 6 => ([(0, []), (2, []), (3, []), (26, [])], [((.loc 2), [])])
  | 7 => ([(2, [])], [((.loc 2), [])])
  | 8 => ([(0, []), (2, []), (39, [])], [((.loc 2), [])])
  | 9 => ([(2, [])], [((.loc 2), [])])
  | 10 => ([(2, [])], [((.loc 2), [])])
  | _ => ([], [])
noncomputable abbrev A86 (p : List Nat) := awp cfg (know know86) (drawOk cfg (know know86)) Try.f86.ntmps lv86 (cd Try.f86 p)
theorem vc86 (w : Int) (Q : AExit → LSt U → Prop) (h : ∀ y_1, y_1 = (BitVec.ofInt (IntKind.bits .u64) w &&& BitVec.ofInt (IntKind.bits .u64) 3) → (((0 : Int) ≤ 2) ∧ (((((w : Int) == 0) = true → (Q .ret (⟨[(2, .ptr (.loc 2) 0)], [((.loc 2), [.int .i64 0, .int .i64 0, .int .i64 0, .int .i64 0, .int .i64 0, .int .i64 0, .int .i64 0, .bool false])], []⟩ : LSt U))) ∧ (((w : Int) == 0) = false → (((((IntKind.wrap .u64 y_1.toNat) : Int) == 0) = true → ((0 : Int) ≤ 32) ∧ ((0 : Int) ≤ 48) ∧ (Q .ret (⟨[(2, .ptr (.loc 2) 0)], [((.loc 2), [.int .i64 1, .int .i64 (Int.fdiv (IntKind.wrap .i64 (IntKind.wrap .i32 (IntKind.wrap .u32 w))) (2 ^ (min (Int.toNat 2) (IntKind.bits .i64)))), .int .i64 (IntKind.wrap .i64 (IntKind.wrap .u64 (BitVec.ofInt (IntKind.bits .u64) (Int.fdiv w (2 ^ (min (Int.toNat 32) (IntKind.bits .u64)))) &&& BitVec.ofInt (IntKind.bits .u64) 65535).toNat)), .int .i64 (IntKind.wrap .i64 (Int.fdiv w (2 ^ (min (Int.toNat 48) (IntKind.bits .u64))))), .int .i64 0, .int .i64 0, .int .i64 0, .bool false])], []⟩ : LSt U))) ∧ ((((IntKind.wrap .u64 y_1.toNat) : Int) == 0) = false → (((((IntKind.wrap .u64 y_1.toNat) : Int) == 1) = true → ((0 : Int) ≤ 32) ∧ ((0 : Int) ≤ 35) ∧ (Q .ret (⟨[(2, .ptr (.loc 2) 0)], [((.loc 2), [.int .i64 2, .int .i64 (Int.fdiv (IntKind.wrap .i64 (IntKind.wrap .i32 (IntKind.wrap .u32 w))) (2 ^ (min (Int.toNat 2) (IntKind.bits .i64)))), .int .i64 0, .int .i64 0, .int .i64 (IntKind.wrap .i64 (IntKind.wrap .u64 (BitVec.ofInt (IntKind.bits .u64) (Int.fdiv w (2 ^ (min (Int.toNat 32) (IntKind.bits .u64)))) &&& BitVec.ofInt (IntKind.bits .u64) 7).toNat)), .int .i64 (IntKind.wrap .i64 (Int.fdiv w (2 ^ (min (Int.toNat 35) (IntKind.bits .u64))))), .int .i64 0, .bool false])], []⟩ : LSt U))) ∧ ((((IntKind.wrap .u64 y_1.toNat) : Int) == 1) = false → (((((IntKind.wrap .u64 y_1.toNat) : Int) == 2) = true → ((0 : Int) ≤ 3) ∧ ((0 : Int) ≤ 32) ∧ (Q .ret (⟨[(2, .ptr (.loc 2) 0)], [((.loc 2), [.int .i64 3, .int .i64 (IntKind.wrap .i64 (IntKind.wrap .u64 (BitVec.ofInt (IntKind.bits .u64) (Int.fdiv w (2 ^ (min (Int.toNat 3) (IntKind.bits .u64)))) &&& BitVec.ofInt (IntKind.bits .u64) 536870911).toNat)), .int .i64 0, .int .i64 0, .int .i64 0, .int .i64 0, .int .i64 (IntKind.wrap .i64 (Int.fdiv w (2 ^ (min (Int.toNat 32) (IntKind.bits .u64))))), .bool (((IntKind.wrap .u64 (BitVec.ofInt (IntKind.bits .u64) w &&& BitVec.ofInt (IntKind.bits .u64) 4).toNat) : Int) != 0)])], []⟩ : LSt U))) ∧ ((((IntKind.wrap .u64 y_1.toNat) : Int) == 2) = false → (Q .ret (⟨[(2, .ptr (.loc 2) 0)], [((.loc 2), [.int .i64 4, .int .i64 0, .int .i64 0, .int .i64 0, .int .i64 0, .int .i64 0, .int .i64 0, .bool false])], []⟩ : LSt U))))))))))))) :
    A86 [] (⟨[(0, .c (.int .u64 w))], [], []⟩ : LSt U) Q :=
  Eq.mpr (by kernel_rfl) (h _ rfl)
def Body86 (w : Int)  : Prop := awp cfg (know (know86)) (drawOk cfg (know (know86))) Try.f86.ntmps lv86 (cd Try.f86 []) (entry (args86.can (w, ())) []) (EndsQ cfg Try.f86.ntmps Try.f86.results.toList (res86 (w, ())) [])
theorem make86 (hb : ∀ (w : Int) (_ : Unit), pre86 (w, ()) → Body86 w) : Contract Try.prog cfg 86 spec86 :=
  contract_flat (l := []) cfgOk rfl (trivial) lv86 Try.func86 rfl rfl 1 (fun _ => rfl) (by decide) (fun ⟨w, _⟩ => hb w ())

noncomputable def know115 : List (FuncId × Fs U) := []
def lv115 : Lives U := fun i => match i with
  | 0 => ([(1, [])], [((.loc 1), [])])
  | 1 => ([(1, []), (6, [])], [((.loc 1), [])])
  | 2 => ([(2, [])], [])
  | 3 => ([(1, []), (14, [])], [((.loc 1), [])])
  | 4 => ([(2, [])], [])
  | 5 => ([(1, []), (17, [])], [((.loc 1), [])])
  | 6 => ([(2, [])], [])
  | 7 => ([(1, []), (38, [])], [((.loc 1), [])])
  | 8 => ([(2, [])], [])
  | 9 => ([(1, []), (3, [])], [((.loc 1), [])])
  | 10 => ([(1, []), (3, []), (40, [])], [((.loc 1), [])])
  | 11 => ([(1, []), (3, []), (40, []), (41, [])], [((.loc 1), [])])
  | 12 => ([(2, [])], [])
  | 13 => ([(1, []), (3, []), (40, []), (43, [])], [((.loc 1), [])])
  | 14 => ([(1, []), (3, [])], [((.loc 1), [])])
  | 15 => ([(1, []), (3, []), (40, []), (45, [])], [((.loc 1), [])])
  | 16 => ([(1, []), (3, [])], [((.loc 1), [])])
  | 17 => ([(1, []), (3, []), (40, []), (47, [])], [((.loc 1), [])])
  | 18 => ([(1, []), (3, [])], [((.loc 1), [])])
  | 19 => ([(1, []), (3, []), (49, [])], [((.loc 1), [])])
  | 20 => ([(1, []), (3, [])], [((.loc 1), [])])
  | 21 => ([(1, []), (3, []), (55, [])], [((.loc 1), [])])
  | 22 => ([(2, [])], [])
  | 23 => ([(2, [])], [])
  | _ => ([], [])
noncomputable abbrev A115 (p : List Nat) := awp cfg (know know115) (drawOk cfg (know know115)) Try.f115.ntmps lv115 (cd Try.f115 p)
theorem vc115 (p : Ptr) (Q : AExit → LSt U → Prop) (h : ((((((Ptr.kind p) : Int) == 1) = true → (InR (((Ptr.data p) : Int) + (Ptr.ptrs p))) ∧ (Q .ret (⟨[(2, .c (.int .i64 (((Ptr.data p) : Int) + (Ptr.ptrs p))))], [], []⟩ : LSt U))) ∧ ((((Ptr.kind p) : Int) == 1) = false → (((((Ptr.kind p) : Int) != 2) = true → (Q .ret (⟨[(2, .c (.int .i64 (-1)))], [], []⟩ : LSt U))) ∧ ((((Ptr.kind p) : Int) != 2) = false → (((((Ptr.code p) : Int) == 7) = true → (InR (((Ptr.count p) : Int) + 1)) ∧ (Q .ret (⟨[(2, .c (.int .i64 (((Ptr.count p) : Int) + 1)))], [], []⟩ : LSt U))) ∧ ((((Ptr.code p) : Int) == 7) = false → (Tr ((!(decide (((Ptr.code p) : Int) < 0))) = true)) ∧ (Tr ((!(decide (((Ptr.code p) : Int) < 0))) = true)) ∧ (((decide (((Ptr.code p) : Int) < 0)) = false → (!(decide (((Ptr.code p) : Int) < 0))) = true)) ∧ (Tr ((!(bif (decide (((Ptr.code p) : Int) < 0)) then true else (decide ((6 : Int) < (Ptr.code p))))) = true)) ∧ (Tr ((!(bif (decide (((Ptr.code p) : Int) < 0)) then true else (decide ((6 : Int) < (Ptr.code p))))) = true)) ∧ (((bif (decide (((Ptr.code p) : Int) < 0)) then true else (decide ((6 : Int) < (Ptr.code p)))) = false → (!(bif (decide (((Ptr.code p) : Int) < 0)) then true else (decide ((6 : Int) < (Ptr.code p))))) = true)) ∧ (Tr ((!(bif (bif (decide (((Ptr.code p) : Int) < 0)) then true else (decide ((6 : Int) < (Ptr.code p)))) then true else (decide (((Ptr.count p) : Int) < 0)))) = true)) ∧ (Tr ((!(bif (bif (decide (((Ptr.code p) : Int) < 0)) then true else (decide ((6 : Int) < (Ptr.code p)))) then true else (decide (((Ptr.count p) : Int) < 0)))) = true)) ∧ (((bif (bif (decide (((Ptr.code p) : Int) < 0)) then true else (decide ((6 : Int) < (Ptr.code p)))) then true else (decide (((Ptr.count p) : Int) < 0))) = false → (!(bif (bif (decide (((Ptr.code p) : Int) < 0)) then true else (decide ((6 : Int) < (Ptr.code p)))) then true else (decide (((Ptr.count p) : Int) < 0)))) = true)) ∧ (((bif (bif (bif (decide (((Ptr.code p) : Int) < 0)) then true else (decide ((6 : Int) < (Ptr.code p)))) then true else (decide (((Ptr.count p) : Int) < 0))) then true else (decide ((536870912 : Int) ≤ (Ptr.count p)))) = true → (Q .ret (⟨[(2, .c (.int .i64 (-1)))], [], []⟩ : LSt U))) ∧ ((bif (bif (bif (decide (((Ptr.code p) : Int) < 0)) then true else (decide ((6 : Int) < (Ptr.code p)))) then true else (decide (((Ptr.count p) : Int) < 0))) then true else (decide ((536870912 : Int) ≤ (Ptr.count p)))) = false → (((((((Ptr.code p) : Int) == 0) = true → (Q .ret (⟨[(2, .c (.int .i64 0))], [], []⟩ : LSt U))) ∧ ((((Ptr.code p) : Int) == 0) = false → (((((Ptr.code p) : Int) == 1) = true → (((64 : Int) ≠ 0) ∧ (((decide ((0 : Int) < (Int.tmod (Ptr.count p) 64))) = true → ((64 : Int) ≠ 0) ∧ (InR (((IntKind.wrap .i64 (Int.tdiv (Ptr.count p) 64)) : Int) + 1)) ∧ (Q .ret (⟨[(2, .c (.int .i64 (((IntKind.wrap .i64 (Int.tdiv (Ptr.count p) 64)) : Int) + 1)))], [], []⟩ : LSt U))) ∧ ((decide ((0 : Int) < (Int.tmod (Ptr.count p) 64))) = false → ((64 : Int) ≠ 0) ∧ (Q .ret (⟨[(2, .c (.int .i64 (IntKind.wrap .i64 (Int.tdiv (Ptr.count p) 64))))], [], []⟩ : LSt U)))))) ∧ ((((Ptr.code p) : Int) == 1) = false → (((((Ptr.code p) : Int) == 2) = true → (((8 : Int) ≠ 0) ∧ (((decide ((0 : Int) < (Int.tmod (Ptr.count p) 8))) = true → ((8 : Int) ≠ 0) ∧ (InR (((IntKind.wrap .i64 (Int.tdiv (Ptr.count p) 8)) : Int) + 1)) ∧ (Q .ret (⟨[(2, .c (.int .i64 (((IntKind.wrap .i64 (Int.tdiv (Ptr.count p) 8)) : Int) + 1)))], [], []⟩ : LSt U))) ∧ ((decide ((0 : Int) < (Int.tmod (Ptr.count p) 8))) = false → ((8 : Int) ≠ 0) ∧ (Q .ret (⟨[(2, .c (.int .i64 (IntKind.wrap .i64 (Int.tdiv (Ptr.count p) 8))))], [], []⟩ : LSt U)))))) ∧ ((((Ptr.code p) : Int) == 2) = false → (((((Ptr.code p) : Int) == 3) = true → (((4 : Int) ≠ 0) ∧ (((decide ((0 : Int) < (Int.tmod (Ptr.count p) 4))) = true → ((4 : Int) ≠ 0) ∧ (InR (((IntKind.wrap .i64 (Int.tdiv (Ptr.count p) 4)) : Int) + 1)) ∧ (Q .ret (⟨[(2, .c (.int .i64 (((IntKind.wrap .i64 (Int.tdiv (Ptr.count p) 4)) : Int) + 1)))], [], []⟩ : LSt U))) ∧ ((decide ((0 : Int) < (Int.tmod (Ptr.count p) 4))) = false → ((4 : Int) ≠ 0) ∧ (Q .ret (⟨[(2, .c (.int .i64 (IntKind.wrap .i64 (Int.tdiv (Ptr.count p) 4))))], [], []⟩ : LSt U)))))) ∧ ((((Ptr.code p) : Int) == 3) = false → (((((Ptr.code p) : Int) == 4) = true → (((2 : Int) ≠ 0) ∧ (((decide ((0 : Int) < (Int.tmod (Ptr.count p) 2))) = true → ((2 : Int) ≠ 0) ∧ (InR (((IntKind.wrap .i64 (Int.tdiv (Ptr.count p) 2)) : Int) + 1)) ∧ (Q .ret (⟨[(2, .c (.int .i64 (((IntKind.wrap .i64 (Int.tdiv (Ptr.count p) 2)) : Int) + 1)))], [], []⟩ : LSt U))) ∧ ((decide ((0 : Int) < (Int.tmod (Ptr.count p) 2))) = false → ((2 : Int) ≠ 0) ∧ (Q .ret (⟨[(2, .c (.int .i64 (IntKind.wrap .i64 (Int.tdiv (Ptr.count p) 2))))], [], []⟩ : LSt U)))))) ∧ ((((Ptr.code p) : Int) == 4) = false → ((1 : Int) ≠ 0) ∧ (((decide ((0 : Int) < (Int.tmod (Ptr.count p) 1))) = true → ((1 : Int) ≠ 0) ∧ (InR (((IntKind.wrap .i64 (Int.tdiv (Ptr.count p) 1)) : Int) + 1)) ∧ (Q .ret (⟨[(2, .c (.int .i64 (((IntKind.wrap .i64 (Int.tdiv (Ptr.count p) 1)) : Int) + 1)))], [], []⟩ : LSt U))) ∧ ((decide ((0 : Int) < (Int.tmod (Ptr.count p) 1))) = false → ((1 : Int) ≠ 0) ∧ (Q .ret (⟨[(2, .c (.int .i64 (IntKind.wrap .i64 (Int.tdiv (Ptr.count p) 1))))], [], []⟩ : LSt U)))))))))))))))))))))))))) :
    A115 [] (⟨[(0, .agg [.int .i64 (Ptr.kind p), .int .i64 (Ptr.off p), .int .i64 (Ptr.data p), .int .i64 (Ptr.ptrs p), .int .i64 (Ptr.code p), .int .i64 (Ptr.count p), .int .i64 (Ptr.segment p), .bool (Ptr.double p)])], [], []⟩ : LSt U) Q :=
  Eq.mpr (by kernel_rfl) h
def Body115 (p : Ptr)  : Prop := awp cfg (know (know115)) (drawOk cfg (know (know115))) Try.f115.ntmps lv115 (cd Try.f115 []) (entry (args115.can (p, ())) []) (EndsQ cfg Try.f115.ntmps Try.f115.results.toList (res115 (p, ())) [])
theorem make115 (hb : ∀ (p : Ptr) (_ : Unit), pre115 (p, ()) → Body115 p) : Contract Try.prog cfg 115 spec115 :=
  contract_flat (l := []) cfgOk rfl (trivial) lv115 Try.func115 rfl rfl 1 (fun _ => rfl) (by decide) (fun ⟨p, _⟩ => hb p ())

noncomputable def know124 : List (FuncId × Fs U) := []
def lv124 : Lives U := fun i => match i with
  | 0 => ([(0, []), (1, [])], [])
  | 1 => ([(4, [])], [])
  | _ => ([], [])
noncomputable abbrev A124 (p : List Nat) := awp cfg (know know124) (drawOk cfg (know know124)) Try.f124.ntmps lv124 (cd Try.f124 p)
theorem vc124 (n : Int) (to : Int) (Q : AExit → LSt U → Prop) (h : ((Tr ((decide ((0 : Int) ≤ n)) = true)) ∧ (Tr ((decide ((0 : Int) ≤ n)) = true)) ∧ ((Tr ((decide ((0 : Int) ≤ n)) = true))) ∧ (Q .ret (⟨[(4, .c (.bool (bif (decide ((0 : Int) ≤ n)) then (decide ((n : Int) ≤ to)) else false)))], [], []⟩ : LSt U)))) :
    A124 [] (⟨[(0, .c (.int .i64 n)), (1, .c (.int .i64 to))], [], []⟩ : LSt U) Q :=
  Eq.mpr (by kernel_rfl) h
def Body124 (n : Int) (to : Int)  : Prop := awp cfg (know (know124)) (drawOk cfg (know (know124))) Try.f124.ntmps lv124 (cd Try.f124 []) (entry (args124.can (n, to, ())) []) (EndsQ cfg Try.f124.ntmps Try.f124.results.toList (res124 (n, to, ())) [])
theorem make124 (hb : ∀ (n : Int) (to : Int) (_ : Unit), pre124 (n, to, ()) → Body124 n to) : Contract Try.prog cfg 124 spec124 :=
  contract_flat (l := []) cfgOk rfl (trivial) lv124 Try.func124 rfl rfl 2 (fun _ => rfl) (by decide) (fun ⟨n, to, _⟩ => hb n to ())

noncomputable def know122 : List (FuncId × Fs U) := [(124, spec124)]
def lv122 : Lives U := fun i => match i with
  | 0 => ([(1, [])], [((.loc 1), [])])
  | 1 => ([(1, []), (4, [])], [((.loc 1), []), ((.loc 4), [])])
  | 2 => ([(1, []), (4, []), (6, [])], [((.loc 1), []), ((.loc 4), [])])
  | 3 => ([(2, []), (3, [])], [])
  | 4 => ([(1, []), (4, []), (15, [])], [((.loc 1), []), ((.loc 4), [])])
  | 5 => ([(2, []), (3, [])], [])
  | 6 => ([(1, []), (4, []), (27, [])], [((.loc 1), []), ((.loc 4), [])])
  | 7 => ([(2, []), (3, [])], [])
  | 8 => ([(2, []), (3, [])], [])
  | _ => ([], [])
noncomputable abbrev A122 (p : List Nat) := awp cfg (know know122) (drawOk cfg (know know122)) Try.f122.ntmps lv122 (cd Try.f122 p)
theorem vc122 (p : Ptr) (Q : AExit → LSt U → Prop) (h : ∀ y_1, y_1 = (List.getD [0, 1, 8, 16, 32, 64, 64] (Int.toNat (Ptr.code p)) 0) → (((((((Ptr.kind p) : Int) == 1) = true → (InR (((Ptr.data p) : Int) + (Ptr.ptrs p))) ∧ (Q .ret (⟨[(2, .c (.int .i64 (((Ptr.data p) : Int) + (Ptr.ptrs p)))), (3, .c (.bool true))], [], []⟩ : LSt U))) ∧ ((((Ptr.kind p) : Int) == 1) = false → (Tr ((((Ptr.kind p) : Int) == 2) = true)) ∧ (Tr ((((Ptr.kind p) : Int) == 2) = true)) ∧ ((Tr ((((Ptr.kind p) : Int) == 2) = true))) ∧ (((bif (((Ptr.kind p) : Int) == 2) then (((Ptr.code p) : Int) == 7) else false) = true → (InR (((Ptr.count p) : Int) + 1)) ∧ (Q .ret (⟨[(2, .c (.int .i64 (((Ptr.count p) : Int) + 1))), (3, .c (.bool true))], [], []⟩ : LSt U))) ∧ ((bif (((Ptr.kind p) : Int) == 2) then (((Ptr.code p) : Int) == 7) else false) = false → (Tr ((((Ptr.kind p) : Int) == 2) = true)) ∧ (Tr ((((Ptr.kind p) : Int) == 2) = true)) ∧ ((((Ptr.kind p) : Int) == 2) = true → pre124 ((Ptr.code p), 6, ())) ∧ ((Tr ((((Ptr.kind p) : Int) == 2) = true))) ∧ (Tr ((bif (((Ptr.kind p) : Int) == 2) then (decide (0 ≤ (Ptr.code p) ∧ (Ptr.code p) ≤ 6)) else false) = true)) ∧ (Tr ((bif (((Ptr.kind p) : Int) == 2) then (decide (0 ≤ (Ptr.code p) ∧ (Ptr.code p) ≤ 6)) else false) = true)) ∧ ((bif (((Ptr.kind p) : Int) == 2) then (decide (0 ≤ (Ptr.code p) ∧ (Ptr.code p) ≤ 6)) else false) = true → pre124 ((Ptr.count p), 536870911, ())) ∧ ((Tr ((bif (((Ptr.kind p) : Int) == 2) then (decide (0 ≤ (Ptr.code p) ∧ (Ptr.code p) ≤ 6)) else false) = true))) ∧ (((bif (bif (((Ptr.kind p) : Int) == 2) then (decide (0 ≤ (Ptr.code p) ∧ (Ptr.code p) ≤ 6)) else false) then (decide (0 ≤ (Ptr.count p) ∧ (Ptr.count p) ≤ 536870911)) else false) = true → ((0 : Int) ≤ (Ptr.code p) ∧ (Ptr.code p) < ((7 : Nat) : Int)) ∧ (InR (((Ptr.count p) : Int) * y_1)) ∧ (InR (((((Ptr.count p) : Int) * y_1) : Int) + 63)) ∧ ((64 : Int) ≠ 0) ∧ (Q .ret (⟨[(2, .c (.int .i64 (IntKind.wrap .i64 (Int.tdiv (((((Ptr.count p) : Int) * y_1) : Int) + 63) 64)))), (3, .c (.bool true))], [], []⟩ : LSt U))) ∧ ((bif (bif (((Ptr.kind p) : Int) == 2) then (decide (0 ≤ (Ptr.code p) ∧ (Ptr.code p) ≤ 6)) else false) then (decide (0 ≤ (Ptr.count p) ∧ (Ptr.count p) ≤ 536870911)) else false) = false → (Q .ret (⟨[(2, .c (.int .i64 0)), (3, .c (.bool false))], [], []⟩ : LSt U))))))))))) :
    A122 [] (⟨[(0, .agg [.int .i64 (Ptr.kind p), .int .i64 (Ptr.off p), .int .i64 (Ptr.data p), .int .i64 (Ptr.ptrs p), .int .i64 (Ptr.code p), .int .i64 (Ptr.count p), .int .i64 (Ptr.segment p), .bool (Ptr.double p)])], [], []⟩ : LSt U) Q :=
  Eq.mpr (by kernel_rfl) (h _ rfl)
def Body122 (p : Ptr)  : Prop := awp cfg (know (know122)) (drawOk cfg (know (know122))) Try.f122.ntmps lv122 (cd Try.f122 []) (entry (args122.can (p, ())) []) (EndsQ cfg Try.f122.ntmps Try.f122.results.toList (res122 (p, ())) [])
theorem make122 (c124 : Contract Try.prog cfg 124 spec124) (hb : ∀ (p : Ptr) (_ : Unit), pre122 (p, ()) → Body122 p) : Contract Try.prog cfg 122 spec122 :=
  contract_flat (l := [(124, spec124)]) cfgOk rfl (⟨c124, trivial⟩) lv122 Try.func122 rfl rfl 1 (fun _ => rfl) (by decide) (fun ⟨p, _⟩ => hb p ())

end Go.AM.Ythokdjgpdonhgaa

namespace Go.AM

def refZ : Ref := ⟨none, 0, 0, 0, 0, 0, 0, 0⟩
def liftX (a : Option Arena) (x : XRef) : Ref := if x.kind = 0 then refZ else ⟨a, x.kind, x.s, x.at_, x.data, x.ptrs, x.count, x.n⟩
def unX (r : Ref) : XRef := ⟨r.kind, r.segment, r.at_, r.data, r.kids, r.count, r.number⟩
def okR (r : Ref) : Prop := okA r.a ∧ OkX (segO r.a) (unX r)
def lenR (r : Ref) : Int := if r.kind = 1 then r.data else if r.kind = 10 then 1 else 0
def kidsR (r : Ref) : Int := if r.kind = 1 then r.kids else r.count
def wordR (r : Ref) (i : Int) : Int := if i < 0 then 0 else (wordsX (segO r.a) (unX r)).getD i.toNat 0

theorem kidsR_un (r : Ref) : kidsR r = kidsX (unX r) := rfl
theorem unX_lift {a : Option Arena} {x : XRef} {l : List (List Int)} (h : OkX l x) : unX (liftX a x) = x := by
  unfold liftX
  split
  · rename_i h0
    rw [h.null h0]; rfl
  · rfl
theorem a_lift {a : Option Arena} {x : XRef} (h : x.kind ≠ 0) : (liftX a x).a = a := by unfold liftX; rw [if_neg h]
theorem okR_lift {a : Option Arena} {x : XRef} (ha : okA a) (h : OkX (segO a) x) : okR (liftX a x) := by
  by_cases h0 : x.kind = 0
  · unfold liftX
    rw [if_pos h0]
    exact ⟨⟨by simp [refZ, segO], fun w hw => by simp [refZ, segO] at hw⟩, okX_z⟩
  · refine ⟨by rw [a_lift h0]; exact ha, ?_⟩
    rw [unX_lift h, a_lift h0]
    exact h

end Go.AM

namespace Go.AM.Ythokdjgpdonhgaa
open Go.AM Go.Proofs

theorem ends_bool {n k : Nat} {rs : List ResultVar} {b b' : Bool} (hr : rs = [ResultVar.tmp k]) (h : b = b') : EndsQ cfg n rs (.c (.bool b')) [] .ret (⟨[(k, .c (.bool b))], [], []⟩ : LSt U) := by
  subst hr h
  have hk : Nat.beq k k = true := Nat.beq_refl k
  simp [EndsQ, Ends, EndsL, LsEnd, resAll, resOne, LSt.toF, look, hk, partsV, resTok, passC, passC1, leR, leL, leC, XEnd]

theorem ends_int {n k : Nat} {rs : List ResultVar} {K : IntKind} {b b' : Int} (hr : rs = [ResultVar.tmp k]) (h : b = b') : EndsQ cfg n rs (.c (.int K b')) [] .ret (⟨[(k, .c (.int K b))], [], []⟩ : LSt U) := by
  subst hr h
  have hk : Nat.beq k k = true := Nat.beq_refl k
  simp [EndsQ, Ends, EndsL, LsEnd, resAll, resOne, LSt.toF, look, hk, partsV, resTok, passC, passC1, leR, leL, leC, XEnd]

theorem ends_eq {n : Nat} {rs : List ResultVar} {r r' : V U} {X : List (List (C U))} {e : AExit} {s : LSt U} (hr : r = r') (h : EndsQ cfg n rs r' X e s) : EndsQ cfg n rs r X e s := by rw [hr]; exact h

theorem dropI {α : Type} {l : List α} {i : Int} (h0 : 0 ≤ i) (h : i < l.length) (d : α) : l.drop i.toNat = l.getD i.toNat d :: l.drop (i + 1).toNat := by
  rw [show (i + 1).toNat = i.toNat + 1 by omega, List.getD_eq_getElem?_getD, List.getElem?_eq_getElem (by omega)]
  exact List.drop_eq_getElem_cons (by omega)

theorem mem_getD {α : Type} {l : List α} {i : Nat} (h : i < l.length) (d : α) : l.getD i d ∈ l := by
  rw [List.getD_eq_getElem?_getD, List.getElem?_eq_getElem h]
  exact List.getElem_mem h

theorem div2 {n : Int} (h0 : 0 ≤ n) (h1 : n < 18446744073709551616) : IntKind.wrap .u64 (Int.tdiv n 2) = n / 2 := by
  rw [Int.tdiv_eq_ediv_of_nonneg h0, wrap_u64 (by omega) (by omega)]

theorem pow2_succ (k : Nat) : (2 : Int) ^ (k + 1) = 2 ^ k * 2 := Int.pow_succ ..
theorem pow2_pos (k : Nat) : (0 : Int) < 2 ^ k := Int.pow_pos (by decide)
theorem div_pow2_succ (n : Int) (k : Nat) : n / 2 ^ k / 2 = n / 2 ^ (k + 1) := by
  rw [pow2_succ, Int.ediv_ediv_of_nonneg (Int.le_of_lt (pow2_pos k))]
end Go.AM.Ythokdjgpdonhgaa

namespace Go.AM.Ythokdjgpdonhgaa
open Go.AM Go.Proofs

theorem c56 : Contract Try.prog cfg 56 spec56 := by
  refine make56 ?_
  intro c _ _
  refine vc56 _ _ ?_
  (simp only [vcT, bif_tl, bif_fr, bif_tlf, bif_frf, Bool.not_eq_true', Bool.not_eq_false', decide_eq_true_eq, decide_eq_false_iff_not, beq_iff_eq, beq_eq_false_iff_ne, bne_iff_ne, ne_eq, bne_eq_false_iff_eq, Bool.or_eq_true, Bool.and_eq_true, Bool.or_eq_false_iff, Bool.and_eq_false_imp])
  refine ⟨fun h => ends_int rfl ?_, fun h => ⟨fun h => ends_int rfl ?_, fun h => ⟨fun h => ends_int rfl ?_, fun h => ⟨fun h => ends_int rfl ?_, fun h => ⟨fun h => ends_int rfl ?_, fun h => ⟨fun h => ends_int rfl ?_, fun h => ends_int rfl ?_⟩⟩⟩⟩⟩⟩
  all_goals (simp only [wd]; repeat' split) <;> omega

theorem wd_list {c : Int} (h0 : 0 ≤ c) (h1 : c < 6) : List.getD [0, 1, 8, 16, 32, 64] c.toNat 0 = wd c ∧ 0 ≤ wd c := by
  have : c = 0 ∨ c = 1 ∨ c = 2 ∨ c = 3 ∨ c = 4 ∨ c = 5 := by omega
  rcases this with rfl | rfl | rfl | rfl | rfl | rfl <;> decide

theorem wd_out {c : Int} (h : c < 0 ∨ 6 ≤ c) : wd c = -1 := by
  unfold wd
  repeat' split
  all_goals omega

theorem c110 : Contract Try.prog cfg 110 spec110 := by
  refine make110 ?_
  intro c _ _
  refine vc110 _ _ ?_
  (simp only [vcT, bif_tl, bif_fr, bif_tlf, bif_frf, Bool.not_eq_true', Bool.not_eq_false', decide_eq_true_eq, decide_eq_false_iff_not, beq_iff_eq, beq_eq_false_iff_ne, bne_iff_ne, ne_eq, bne_eq_false_iff_eq, Bool.or_eq_true, Bool.and_eq_true, Bool.or_eq_false_iff, Bool.and_eq_false_imp])
  refine ⟨fun h => ?_, fun h => ⟨by omega, ?_⟩⟩
  · refine ends_eq (r' := .tup [(false, [.int .i64 0]), (false, [.bool false])]) ?_ (by (repeat' (first | exact trivial | exact rfl | refine And.intro ?_ ?_)))
    simp only [res110, wd_out h]
    rfl
  · have hw := wd_list (c := c) (by omega) (by omega)
    refine ends_eq (r' := .tup [(false, [.int .i64 (List.getD [0, 1, 8, 16, 32, 64] (Int.toNat c) 0)]), (false, [.bool true])]) ?_ (by (repeat' (first | exact trivial | exact rfl | refine And.intro ?_ ?_)))
    simp only [res110, hw.1]
    rw [if_neg (by omega), decide_eq_true hw.2]

theorem c83 : Contract Try.prog cfg 83 spec83 := by
  refine make83 c110 ?_
  intro c _ _
  refine vc83 _ _ ?_
  refine ⟨trivial, ?_⟩
  (repeat' (first | exact trivial | exact rfl | refine And.intro ?_ ?_))

theorem c93 : Contract Try.prog cfg 93 spec93 := by
  refine make93 ?_
  intro l a _ hp
  simp only [pre93] at hp
  obtain ⟨hl, ha⟩ := hp
  refine vc93 _ _ _ ?_
  (simp only [vcT, bif_tl, bif_fr, bif_tlf, bif_frf, Bool.not_eq_true', Bool.not_eq_false', decide_eq_true_eq, decide_eq_false_iff_not, beq_iff_eq, beq_eq_false_iff_ne, bne_iff_ne, ne_eq, bne_eq_false_iff_eq, Bool.or_eq_true, Bool.and_eq_true, Bool.or_eq_false_iff, Bool.and_eq_false_imp])
  have hd : 0 ≤ a → IntKind.wrap .i64 (Int.tdiv a 64) = a / 64 := fun h => by rw [Int.tdiv_eq_ediv_of_nonneg h, wrap_i64 (by omega) (by omega)]
  refine ⟨fun _ => by decide, fun h => ends_int rfl ?_, fun h => ?_⟩
  · unfold bitW
    by_cases h0 : a < 0
    · rw [if_pos (.inl h0)]
    · rw [hd (by omega)] at h
      rw [if_pos]; omega
  · have h0 : 0 ≤ a := by omega
    rw [hd h0] at h ⊢
    have hx := getD_word hl (a / 64).toNat
    have hm : Int.tmod a 64 = a % 64 := Int.tmod_eq_emod_of_nonneg h0
    refine ⟨by decide, by omega, ?_⟩
    refine loop_rule (ι := Int × Int) (fun p => head93_0 l a p.1 p.2) (fun p => 0 ≤ p.2 ∧ p.2 ≤ a % 64 ∧ p.1 = l.getD (a / 64).toNat 0 / 2 ^ p.2.toNat ∧ 0 ≤ p.1 ∧ p.1 < 18446744073709551616) (fun p => (a % 64 - p.2).toNat) (_, 0) rfl ⟨by simp, by dsimp only; omega, by show l.getD _ 0 = l.getD _ 0 / 2 ^ 0; rw [Int.pow_zero, Int.ediv_one], hx.1, hx.2⟩ ?_
    rintro ⟨x, i⟩ ⟨h1, h2, h3, h4, h5⟩
    dsimp only at h1 h2 h3 h4 h5
    refine vc93_l0 _ _ _ _ _ _ ?_
    (simp only [vcT, bif_tl, bif_fr, bif_tlf, bif_frf, Bool.not_eq_true', Bool.not_eq_false', decide_eq_true_eq, decide_eq_false_iff_not, beq_iff_eq, beq_eq_false_iff_ne, bne_iff_ne, ne_eq, bne_eq_false_iff_eq, Bool.or_eq_true, Bool.and_eq_true, Bool.or_eq_false_iff, Bool.and_eq_false_imp])
    rw [hm]
    refine ⟨by decide, fun hi => ⟨by decide, by ((unfold InR; omega)), (IntKind.wrap .u64 (Int.tdiv x 2), i + 1), rfl, ?_, by dsimp only; omega⟩, fun hi => ⟨by decide, ends_int rfl ?_⟩⟩
    · rw [div2 h4 h5]
      refine ⟨by dsimp only; omega, by dsimp only; omega, ?_, by dsimp only; omega, by dsimp only; omega⟩
      dsimp only
      rw [h3, div_pow2_succ, show (i + 1).toNat = i.toNat + 1 by omega]
    · show _ = bitW l a
      unfold bitW
      rw [if_neg (by omega), Int.tmod_eq_emod_of_nonneg h4, h3, show i = a % 64 by omega]

theorem wd_div (c : Int) : wd c < 1 ∨ wd c = 1 ∨ wd c = 8 ∨ wd c = 16 ∨ wd c = 32 ∨ wd c = 64 := by have := wd_cases c; omega

theorem bits_step {x : Int} (p w k : Nat) (hk : k < w) : (x / 2 ^ p / 2 ^ (k + 1) % 2 ^ (w - (k + 1))) * 2 + x / 2 ^ (p + k) % 2 = x / 2 ^ p / 2 ^ k % 2 ^ (w - k) := by
  have e1 : x / 2 ^ (p + k) = x / 2 ^ p / 2 ^ k := by
    rw [Int.pow_add, Int.ediv_ediv_of_nonneg (Int.le_of_lt (pow2_pos p))]
  rw [e1, ← div_pow2_succ]
  generalize x / 2 ^ p / 2 ^ k = y
  rw [show w - k = (w - (k + 1)) + 1 by omega, pow2_succ]
  generalize hq : (2 : Int) ^ (w - (k + 1)) = q
  have hq0 : 0 < q := by rw [← hq]; exact pow2_pos _
  have h1 := Int.emod_add_mul_ediv y 2
  have h2 := Int.emod_add_mul_ediv (y / 2) q
  have h3 := Int.emod_add_mul_ediv y (q * 2)
  have h4 : y / (q * 2) = y / 2 / q := by rw [Int.mul_comm, Int.ediv_ediv_of_nonneg (by decide)]
  rw [h4] at h3
  have h5 : q * 2 * (y / 2 / q) = 2 * (q * (y / 2 / q)) := by rw [Int.mul_comm q 2, Int.mul_assoc]
  omega

theorem wd_le (c : Int) : -1 ≤ wd c ∧ wd c ≤ 64 := by have := wd_cases c; omega

theorem wd_at {c i : Int} (hi : 0 ≤ i) (hi' : i ≤ 1099511627776) (hw : 1 ≤ wd c) : 0 ≤ i * wd c ∧ i * wd c ≤ 70368744177664 ∧ i * wd c % 64 + wd c ≤ 64 ∧
    ∀ k, 0 ≤ k → k < wd c → (i * wd c + k) / 64 = i * wd c / 64 ∧ (i * wd c + k) % 64 = i * wd c % 64 + k := by
  rcases wd_div c with e | e | e | e | e | e
  · omega
  all_goals (rw [e]; refine ⟨by omega, by omega, by omega, fun k _ _ => ⟨by omega, by omega⟩⟩)

def wordW (l : List Int) (q : Int) : Int := if (l.length : Int) ≤ q then 0 else l.getD q.toNat 0

theorem wordW_word {l : List Int} (h : okW l) (q : Int) : 0 ≤ wordW l q ∧ wordW l q < 18446744073709551616 := by
  unfold wordW
  split
  · decide
  · exact getD_word h _

theorem bitW_eq {l : List Int} {a : Int} (h : 0 ≤ a) : bitW l a = wordW l (a / 64) / 2 ^ (a % 64).toNat % 2 := by
  unfold bitW wordW
  by_cases h1 : (l.length : Int) ≤ a / 64
  · rw [if_pos (.inr h1), if_pos h1]; simp
  · rw [if_neg (by omega), if_neg h1]

theorem getW_eq {l : List Int} {c i : Int} (hw : 1 ≤ wd c) (h0 : 0 ≤ i) (h1 : i ≤ 1099511627776) : getW l c i = wordW l (i * wd c / 64) / 2 ^ (i * wd c % 64).toNat % 2 ^ (wd c).toNat := by
  unfold getW wordW
  by_cases h2 : (l.length : Int) ≤ i * wd c / 64
  · rw [if_pos (by omega), if_pos h2]; simp
  · rw [if_neg (by omega), if_neg h2]

theorem mod_pow_lt {x : Int} {k : Nat} (hk : k ≤ 64) : 0 ≤ x % 2 ^ k ∧ x % 2 ^ k < 18446744073709551616 := by
  have hp := pow2_pos k
  refine ⟨Int.emod_nonneg _ (by omega), Int.lt_of_lt_of_le (Int.emod_lt_of_pos _ hp) ?_⟩
  have : (2 : Int) ^ k = ((2 ^ k : Nat) : Int) := by simp
  rw [this]
  have := Nat.pow_le_pow_right (n := 2) (by decide) hk
  omega

theorem c69 : Contract Try.prog cfg 69 spec69 := by
  refine make69 c56 c93 ?_
  intro l c i _ hp
  simp only [pre69] at hp
  refine vc69 _ _ _ _ ?_
  (simp only [vcT, bif_tl, bif_fr, bif_tlf, bif_frf, Bool.not_eq_true', Bool.not_eq_false', decide_eq_true_eq, decide_eq_false_iff_not, beq_iff_eq, beq_eq_false_iff_ne, bne_iff_ne, ne_eq, bne_eq_false_iff_eq, Bool.or_eq_true, Bool.and_eq_true, Bool.or_eq_false_iff, Bool.and_eq_false_imp])
  have hw := wd_le c
  refine ⟨trivial, fun h => ends_int rfl ?_, fun h => ⟨by ((unfold InR; omega)), ?_⟩⟩
  · show (0 : Int) = getW l c i
    unfold getW
    rw [if_pos (by omega)]
  · obtain ⟨a0, a1, a2, a3⟩ := wd_at (c := c) (i := i) (by omega) (by omega) (by omega)
    have hW := wordW_word hp (i * wd c / 64)
    refine loop_rule (ι := Int × Int) (fun p => head69_0 l c i p.1 p.2) (fun p => -1 ≤ p.2 ∧ p.2 < wd c ∧ p.1 = wordW l (i * wd c / 64) / 2 ^ (i * wd c % 64).toNat / 2 ^ (p.2 + 1).toNat % 2 ^ ((wd c).toNat - (p.2 + 1).toNat)) (fun p => (p.2 + 1).toNat) (0, wd c - 1) rfl ⟨by dsimp only; omega, by dsimp only; omega, ?_⟩ ?_
    · dsimp only
      rw [show (wd c - 1 + 1).toNat = (wd c).toNat by omega, Nat.sub_self]
      simp
    rintro ⟨x, k⟩ ⟨h1, h2, h3⟩
    dsimp only at h1 h2 h3
    refine vc69_l0 _ _ _ _ _ _ _ ?_
    (simp only [vcT, bif_tl, bif_fr, bif_tlf, bif_frf, Bool.not_eq_true', Bool.not_eq_false', decide_eq_true_eq, decide_eq_false_iff_not, beq_iff_eq, beq_eq_false_iff_ne, bne_iff_ne, ne_eq, bne_eq_false_iff_eq, Bool.or_eq_true, Bool.and_eq_true, Bool.or_eq_false_iff, Bool.and_eq_false_imp])
    refine ⟨fun hk => ?_, fun hk => ends_int rfl ?_⟩
    · obtain ⟨b1, b2⟩ := a3 k hk h2
      have hb : bitW l (i * wd c + k) = wordW l (i * wd c / 64) / 2 ^ ((i * wd c % 64).toNat + k.toNat) % 2 := by
        rw [bitW_eq (by omega), b1, b2, show (i * wd c % 64 + k).toNat = (i * wd c % 64).toNat + k.toNat by omega]
      have hs := bits_step (x := wordW l (i * wd c / 64)) (i * wd c % 64).toNat (wd c).toNat k.toNat (by omega)
      rw [← hb, show k.toNat + 1 = (k + 1).toNat by omega, ← h3] at hs
      have hm := mod_pow_lt (x := wordW l (i * wd c / 64) / 2 ^ (i * wd c % 64).toNat / 2 ^ k.toNat) (k := (wd c).toNat - k.toNat) (by omega)
      rw [← hs] at hm
      have hx : 0 ≤ x := by rw [h3]; exact Int.emod_nonneg _ (by have := pow2_pos ((wd c).toNat - (k + 1).toNat); omega)
      have hb0 : 0 ≤ bitW l (i * wd c + k) := by rw [hb]; omega
      rw [wrap_u64 (n := x * 2) (by omega) (by omega), wrap_u64 hm.1 hm.2, hs]
      refine ⟨by ((unfold InR; omega)), by ((unfold InR; omega)), ⟨hp, by dsimp only; omega⟩, by ((unfold InR; omega)), (_, k - 1), rfl, ⟨by dsimp only; omega, by dsimp only; omega, ?_⟩, by dsimp only; omega⟩
      dsimp only
      rw [show (k - 1 + 1).toNat = k.toNat by omega]
    · show _ = getW l c i
      rw [getW_eq (by omega) (by omega) (by omega), h3, show (k + 1).toNat = 0 by omega]
      simp

theorem shr_u64 {x : Int} {n : Int} (h0 : 0 ≤ n) (h1 : n ≤ 64) : Int.fdiv x (2 ^ (min n.toNat (IntKind.bits .u64))) = x / 2 ^ n.toNat := by
  rw [show min n.toNat (IntKind.bits .u64) = n.toNat by simp [IntKind.bits]; omega, Int.fdiv_eq_ediv_of_nonneg _ (Int.le_of_lt (pow2_pos _))]

theorem c84 : Contract Try.prog cfg 84 spec84 := by
  refine make84 c110 ?_
  intro l c i _ hp
  simp only [pre84] at hp
  refine vc84 _ _ _ _ ?_
  rintro y hy
  (simp only [vcT, bif_tl, bif_fr, bif_tlf, bif_frf, Bool.not_eq_true', Bool.not_eq_false', decide_eq_true_eq, decide_eq_false_iff_not, beq_iff_eq, beq_eq_false_iff_ne, bne_iff_ne, ne_eq, bne_eq_false_iff_eq, Bool.or_eq_true, Bool.and_eq_true, Bool.or_eq_false_iff, Bool.and_eq_false_imp])
  dsimp only at hy
  have hw := wd_cases c
  by_cases hg : 1 ≤ wd c
  · rw [if_neg (show ¬ wd c < 0 by omega)] at hy ⊢
    refine ⟨trivial, fun h => ?_, fun _ => by decide, fun h => ends_int rfl ?_, fun h => ?_⟩
    · obtain ⟨a0, a1, a2, a3⟩ := wd_at (c := c) (i := i) (by omega) (by omega) hg
      ((unfold InR; omega))
    · show (0 : Int) = getW l c i
      unfold getW
      by_cases h0 : i < 0 ∨ 1099511627776 < i
      · rw [if_pos (by omega)]
      · obtain ⟨a0, a1, a2, a3⟩ := wd_at (c := c) (i := i) (by omega) (by omega) hg
        rw [Int.tdiv_eq_ediv_of_nonneg a0, wrap_i64 (by omega) (by omega)] at hy
        rw [if_pos (by omega)]
    · obtain ⟨a0, a1, a2, a3⟩ := wd_at (c := c) (i := i) (by omega) (by omega) hg
      rw [Int.tdiv_eq_ediv_of_nonneg a0, wrap_i64 (by omega) (by omega)] at hy
      have hx := getD_word hp y.toNat
      have hm : Int.tmod (i * wd c) 64 = i * wd c % 64 := Int.tmod_eq_emod_of_nonneg a0
      rw [hm, shr_u64 (by omega) (by omega)]
      have hg' : getW l c i = l.getD y.toNat 0 / 2 ^ (i * wd c % 64).toNat % 2 ^ (wd c).toNat := by
        rw [getW_eq hg (by omega) (by omega)]
        unfold wordW
        rw [← hy, if_neg (by omega)]
      have hz0 : 0 ≤ l.getD y.toNat 0 / 2 ^ (i * wd c % 64).toNat := Int.ediv_nonneg hx.1 (Int.le_of_lt (pow2_pos _))
      have hz1 : l.getD y.toNat 0 / 2 ^ (i * wd c % 64).toNat < 18446744073709551616 := Int.lt_of_le_of_lt (Int.ediv_le_self _ hx.1) hx.2
      refine ⟨by ((unfold InR; omega)), by decide, by omega, by ((unfold InR; omega)), by decide, by omega, fun h64 => ends_int rfl ?_, fun h64 => ⟨by omega, ends_int rfl ?_⟩⟩
      · show _ = getW l c i
        rw [hg']
        have h64' : (2 : Int) ^ (wd c).toNat = 18446744073709551616 := by rw [h64]; rfl
        rw [h64']
        exact (Int.emod_eq_of_lt hz0 hz1).symm
      · show _ = getW l c i
        rw [hg']
        refine and_mask hz0 hz1 (wd c).toNat (by omega) ?_
        rcases wd_div c with e | e | e | e | e | e
        · omega
        all_goals first | (rw [e]; decide) | omega
  · refine ⟨trivial, fun h => ?_, fun _ => by decide, fun h => ends_int rfl ?_, fun h => ?_⟩
    · exfalso
      have h1 := h.1.1.2
      rw [if_neg (by omega)] at h1
      omega
    · show (0 : Int) = getW l c i
      unfold getW
      rw [if_pos (by omega)]
    · exfalso
      have h1 := h.1.1.1.2
      rw [if_neg (by omega)] at h1
      omega

theorem c92 : Contract Try.prog cfg 92 spec92 := by
  refine make92 ?_
  intro w b k _ hp
  simp only [pre92] at hp
  obtain ⟨⟨hw0, hw1⟩, hb0, hb1, hk0, hk1⟩ := hp
  refine vc92 _ _ _ _ ?_
  refine loop_rule (ι := Int × Int) (fun p => head92_0 w b k p.1 p.2) (fun p => 0 ≤ p.2 ∧ p.2 ≤ b ∧ p.1 = w / 2 ^ p.2.toNat ∧ 0 ≤ p.1 ∧ p.1 < 18446744073709551616) (fun p => (b - p.2).toNat) (w, 0) rfl ⟨by simp, by dsimp only; omega, by show w = w / 2 ^ 0; rw [Int.pow_zero, Int.ediv_one], hw0, hw1⟩ ?_
  rintro ⟨x, i⟩ ⟨h1, h2, h3, h4, h5⟩
  dsimp only at h1 h2 h3 h4 h5
  refine vc92_l0 _ _ _ _ _ _ _ ?_
  (simp only [vcT, bif_tl, bif_fr, bif_tlf, bif_frf, Bool.not_eq_true', Bool.not_eq_false', decide_eq_true_eq, decide_eq_false_iff_not, beq_iff_eq, beq_eq_false_iff_ne, bne_iff_ne, ne_eq, bne_eq_false_iff_eq, Bool.or_eq_true, Bool.and_eq_true, Bool.or_eq_false_iff, Bool.and_eq_false_imp])
  refine ⟨fun hi => ⟨by decide, by ((unfold InR; omega)), (IntKind.wrap .u64 (Int.tdiv x 2), i + 1), rfl, ?_, by dsimp only; omega⟩, fun hi => ?_⟩
  · rw [div2 h4 h5]
    refine ⟨by dsimp only; omega, by dsimp only; omega, ?_, by dsimp only; omega, by dsimp only; omega⟩
    dsimp only
    rw [h3, div_pow2_succ, show (i + 1).toNat = i.toNat + 1 by omega]
  · have hib : i = b := by omega
    subst hib
    clear hi
    generalize hx : x = x0 at *
    refine loop_rule (ι := Int × Int × Int × Int) (fun p => head92_1 w i k p.1 p.2.1 p.2.2.1 p.2.2.2) (fun p => 0 ≤ p.2.2.2 ∧ p.2.2.2 ≤ k ∧ p.1 = x0 / 2 ^ p.2.2.2.toNat ∧ p.2.1 = x0 % 2 ^ p.2.2.2.toNat ∧ p.2.2.1 = 2 ^ p.2.2.2.toNat) (fun p => (k - p.2.2.2).toNat) (x0, 0, 1, 0) rfl ⟨by simp, by dsimp only; omega, by show x0 = x0 / 2 ^ 0; rw [Int.pow_zero, Int.ediv_one], by show 0 = x0 % 2 ^ 0; rw [Int.pow_zero, Int.emod_one], rfl⟩ ?_
    rintro ⟨y, n, p, j⟩ ⟨g1, g2, g3, g4, g5⟩
    dsimp only at g1 g2 g3 g4 g5
    refine vc92_l1 _ _ _ _ _ _ _ _ _ ?_
    (simp only [vcT, bif_tl, bif_fr, bif_tlf, bif_frf, Bool.not_eq_true', Bool.not_eq_false', decide_eq_true_eq, decide_eq_false_iff_not, beq_iff_eq, beq_eq_false_iff_ne, bne_iff_ne, ne_eq, bne_eq_false_iff_eq, Bool.or_eq_true, Bool.and_eq_true, Bool.or_eq_false_iff, Bool.and_eq_false_imp])
    have hpp := pow2_pos j.toNat
    have hple : (2 : Int) ^ j.toNat ≤ 4294967296 := by
      have : (2 : Int) ^ j.toNat = ((2 ^ j.toNat : Nat) : Int) := by simp
      rw [this]
      have := Nat.pow_le_pow_right (n := 2) (show 0 < 2 by decide) (show j.toNat ≤ 32 by omega)
      omega
    have hy0 : 0 ≤ y := by rw [g3]; exact Int.ediv_nonneg h4 (by omega)
    have hy1 : y < 18446744073709551616 := by rw [g3]; exact Int.lt_of_le_of_lt (Int.ediv_le_self _ h4) h5
    have hn0 : 0 ≤ n := by rw [g4]; exact Int.emod_nonneg _ (by omega)
    have hn1 : n < 4294967296 := by rw [g4]; have := Int.emod_lt_of_pos x0 hpp; omega
    have hm : Int.tmod y 2 = y % 2 := Int.tmod_eq_emod_of_nonneg hy0
    have hs : x0 % 2 ^ (j.toNat + 1) = x0 % 2 ^ j.toNat + y % 2 * 2 ^ j.toNat := by
      rw [g3, pow2_succ]
      generalize (2 : Int) ^ j.toNat = q at hpp ⊢
      have e1 := Int.emod_add_mul_ediv x0 q
      have e2 := Int.emod_add_mul_ediv (x0 / q) 2
      have e3 := Int.emod_add_mul_ediv x0 (q * 2)
      have e4 : x0 / (q * 2) = x0 / q / 2 := by rw [Int.ediv_ediv_of_nonneg (by omega)]
      rw [e4] at e3
      have e5 : q * (x0 / q) = q * (x0 / q % 2) + q * 2 * (x0 / q / 2) := by
        rw [Int.mul_assoc, ← Int.mul_add, e2]
      rw [Int.mul_comm (x0 / q % 2) q]
      omega
    rw [hm]
    refine ⟨fun hj => ⟨by decide, fun ho => ⟨by ((unfold InR; omega)), by decide, by ((unfold InR; omega)), by ((unfold InR; omega)), (_, _, _, j + 1), rfl, ⟨by dsimp only; omega, by dsimp only; omega, ?_, ?_, ?_⟩, by dsimp only; omega⟩, fun ho => ⟨by decide, by ((unfold InR; omega)), by ((unfold InR; omega)), (_, _, _, j + 1), rfl, ⟨by dsimp only; omega, by dsimp only; omega, ?_, ?_, ?_⟩, by dsimp only; omega⟩⟩, fun hj => ends_int rfl ?_⟩
    · show IntKind.wrap .u64 (Int.tdiv y 2) = _
      rw [div2 hy0 hy1, g3, div_pow2_succ, show (j + 1).toNat = j.toNat + 1 by omega]
    · show n + p = _
      rw [show (j + 1).toNat = j.toNat + 1 by omega, hs, ho, g4, g5, Int.one_mul]
    · show 2 * p = _
      rw [show (j + 1).toNat = j.toNat + 1 by omega, pow2_succ, g5, Int.mul_comm]
    · show IntKind.wrap .u64 (Int.tdiv y 2) = _
      rw [div2 hy0 hy1, g3, div_pow2_succ, show (j + 1).toNat = j.toNat + 1 by omega]
    · show n = _
      rw [show (j + 1).toNat = j.toNat + 1 by omega, hs, show y % 2 = 0 by omega, g4, Int.zero_mul, Int.add_zero]
    · show 2 * p = _
      rw [show (j + 1).toNat = j.toNat + 1 by omega, pow2_succ, g5, Int.mul_comm]
    · show n = fieldP w i k
      rw [g4, show j = k by omega]
      unfold fieldP
      rw [h3]

theorem and3 {w : Int} (h0 : 0 ≤ w) (h1 : w < 18446744073709551616) : IntKind.wrap .u64 (BitVec.ofInt (IntKind.bits .u64) w &&& BitVec.ofInt (IntKind.bits .u64) 3).toNat = w % 4 := and_mask h0 h1 2 (by decide) rfl

theorem and4 {w : Int} (h0 : 0 ≤ w) (h1 : w < 18446744073709551616) : (IntKind.wrap .u64 (BitVec.ofInt (IntKind.bits .u64) w &&& BitVec.ofInt (IntKind.bits .u64) 4).toNat != 0) = decide (w / 4 % 2 = 1) := by
  obtain ⟨n, rfl⟩ := Int.eq_ofNat_of_zero_le h0
  have e1 : BitVec.ofInt (IntKind.bits .u64) ((n : Nat) : Int) = BitVec.ofNat 64 n := by simp [IntKind.bits]
  have e2 : BitVec.ofInt (IntKind.bits .u64) (4 : Int) = BitVec.ofNat 64 4 := rfl
  rw [e1, e2]
  have hn : n < 2 ^ 64 := by omega
  have e4 : (BitVec.ofNat 64 n &&& BitVec.ofNat 64 4).toNat = n / 4 % 2 * 4 := by
    rw [BitVec.toNat_and, BitVec.toNat_ofNat, BitVec.toNat_ofNat, Nat.mod_eq_of_lt hn]
    apply Nat.eq_of_testBit_eq
    intro k
    rw [Nat.testBit_and, show (4 % 2 ^ 64 : Nat) = 2 ^ 2 from rfl, Nat.testBit_two_pow]
    by_cases hk : 2 = k
    · subst hk
      rw [Nat.testBit_eq_decide_div_mod_eq]
      have : n / 4 % 2 = 0 ∨ n / 4 % 2 = 1 := by omega
      rcases this with e | e <;> rw [show n / 2 ^ 2 = n / 4 from rfl, e] <;> decide
    · have : n / 4 % 2 = 0 ∨ n / 4 % 2 = 1 := by omega
      rcases this with e | e <;> rw [e]
      · simp [hk]
      · rw [show 1 * 4 = 2 ^ 2 from rfl, Nat.testBit_two_pow]; simp [hk]
  show (IntKind.wrap .u64 ((BitVec.ofNat 64 n &&& BitVec.ofNat 64 4).toNat : Int) != 0) = _
  rw [e4, wrap_u64 (by omega) (by omega)]
  rw [Bool.eq_iff_iff]
  simp
  omega

theorem off_dec {w : Int} (h0 : 0 ≤ w) (h1 : w < 18446744073709551616) : Int.fdiv (IntKind.wrap .i64 (IntKind.wrap .i32 (IntKind.wrap .u32 w))) (2 ^ (min (Int.toNat 2) (IntKind.bits .i64))) = offP w := by
  show Int.fdiv _ 4 = _
  rw [Int.fdiv_eq_ediv_of_nonneg _ (by decide)]
  unfold offP
  simp only [IntKind.wrap, IntKind.signed, IntKind.bits]
  simp
  repeat' split
  all_goals omega

theorem c86 : Contract Try.prog cfg 86 spec86 := by
  refine make86 ?_
  intro w _ hp
  simp only [pre86] at hp
  refine vc86 _ _ ?_
  rintro y hy
  dsimp only at hy
  have h3 := and3 hp.1 hp.2
  rw [← hy] at h3
  (simp only [vcT, bif_tl, bif_fr, bif_tlf, bif_frf, Bool.not_eq_true', Bool.not_eq_false', decide_eq_true_eq, decide_eq_false_iff_not, beq_iff_eq, beq_eq_false_iff_ne, bne_iff_ne, ne_eq, bne_eq_false_iff_eq, Bool.or_eq_true, Bool.and_eq_true, Bool.or_eq_false_iff, Bool.and_eq_false_imp])
  rw [h3, off_dec hp.1 hp.2, and4 hp.1 hp.2]
  have hs : ∀ (k : Nat), k ≤ 64 → Int.fdiv w (2 ^ (min (Int.toNat (k : Int)) (IntKind.bits .u64))) = w / 2 ^ k := fun k hk => shr_u64 (x := w) (n := (k : Int)) (by omega) (by omega)
  have s32 := hs 32 (by decide)
  have s48 := hs 48 (by decide)
  have s35 := hs 35 (by decide)
  have s3 := hs 3 (by decide)
  have m1 : ∀ x m : Int, 0 ≤ x → x < 18446744073709551616 → ∀ k : Nat, k ≤ 32 → m = 2 ^ k - 1 → IntKind.wrap .i64 (IntKind.wrap .u64 (BitVec.ofInt (IntKind.bits .u64) x &&& BitVec.ofInt (IntKind.bits .u64) m).toNat) = x % 2 ^ k := by
    intro x m hx0 hx1 k hk hm
    rw [and_mask hx0 hx1 k (by omega) hm]
    have hp' := pow2_pos k
    have hle : (2 : Int) ^ k ≤ 4294967296 := by
      have : (2 : Int) ^ k = ((2 ^ k : Nat) : Int) := by simp
      rw [this]
      have := Nat.pow_le_pow_right (n := 2) (show 0 < 2 by decide) hk
      omega
    have a1 := Int.emod_nonneg x (show (2 : Int) ^ k ≠ 0 by omega)
    have a2 := Int.emod_lt_of_pos x hp'
    exact wrap_i64 (by omega) (by omega)
  erw [s32, s48, s35, s3]
  rw [m1 _ 65535 (by omega) (by omega) 16 (by decide) rfl, m1 _ 7 (by omega) (by omega) 3 (by decide) rfl, m1 _ 536870911 (by omega) (by omega) 29 (by decide) rfl]
  rw [wrap_i64 (n := w / 2 ^ 48) (by omega) (by omega), wrap_i64 (n := w / 2 ^ 35) (by omega) (by omega), wrap_i64 (n := w / 2 ^ 32) (by omega) (by omega)]
  refine ⟨by decide, fun h => ?_, fun hz => ⟨fun h => ⟨by decide, by decide, ?_⟩, fun h0 => ⟨fun h => ⟨by decide, by decide, ?_⟩, fun h1 => ⟨fun h => ⟨by decide, by decide, ?_⟩, fun h2 => ?_⟩⟩⟩⟩
  all_goals
    refine ends_eq (r' := .agg (enc .ptr (decP w))) rfl ?_
  · rw [show decP w = pz by unfold decP; rw [if_pos h]]; (repeat' (first | exact trivial | exact rfl | refine And.intro ?_ ?_))
  · rw [show decP w = ⟨1, offP w, w / 4294967296 % 65536, w / 281474976710656, 0, 0, 0, false⟩ by unfold decP; rw [if_neg hz, if_pos h]]; (repeat' (first | exact trivial | exact rfl | refine And.intro ?_ ?_))
  · rw [show decP w = ⟨2, offP w, 0, 0, w / 4294967296 % 8, w / 34359738368, 0, false⟩ by unfold decP; rw [if_neg hz, if_neg h0, if_pos h]]; (repeat' (first | exact trivial | exact rfl | refine And.intro ?_ ?_))
  · rw [show decP w = ⟨3, w / 8 % 536870912, 0, 0, 0, 0, w / 4294967296, decide (w / 4 % 2 = 1)⟩ by unfold decP; rw [if_neg hz, if_neg h0, if_neg h1, if_pos h]]; (repeat' (first | exact trivial | exact rfl | refine And.intro ?_ ?_))
  · rw [show decP w = ⟨4, 0, 0, 0, 0, 0, 0, false⟩ by unfold decP; rw [if_neg hz, if_neg h0, if_neg h1, if_neg h2]]; (repeat' (first | exact trivial | exact rfl | refine And.intro ?_ ?_))

theorem fields {w : Int} (h0 : 0 ≤ w) (h1 : w < 18446744073709551616) : fieldP w 2 30 = w / 4 % 1073741824 ∧ fieldP w 0 2 = w % 4 ∧ fieldP w 32 16 = w / 4294967296 % 65536 ∧ fieldP w 48 16 = w / 281474976710656 ∧
    fieldP w 32 3 = w / 4294967296 % 8 ∧ fieldP w 35 29 = w / 34359738368 ∧ fieldP w 3 29 = w / 8 % 536870912 ∧ fieldP w 32 32 = w / 4294967296 ∧ fieldP w 2 1 = w / 4 % 2 := by
  simp only [fieldP]
  refine ⟨rfl, ?_, rfl, ?_, rfl, ?_, rfl, ?_, rfl⟩
  · show w / 1 % 4 = _; omega
  · show w / 281474976710656 % 65536 = _; omega
  · show w / 34359738368 % 536870912 = _; omega
  · show w / 4294967296 % 4294967296 = _; omega

theorem c66 : Contract Try.prog cfg 66 spec66 := by
  refine make66 c92 ?_
  intro w _ hp
  simp only [pre66] at hp
  obtain ⟨f1, f2, f3, f4, f5, f6, f7, f8, f9⟩ := fields hp.1 hp.2
  have ho : ∀ b k : Int, 0 ≤ b → b ≤ 64 → 0 ≤ k → k ≤ 32 → pre92 (w, b, k, ()) := fun b k h1 h2 h3 h4 => ⟨hp, h1, h2, h3, h4⟩
  refine vc66 _ _ ?_
  (simp only [vcT, bif_tl, bif_fr, bif_tlf, bif_frf, Bool.not_eq_true', Bool.not_eq_false', decide_eq_true_eq, decide_eq_false_iff_not, beq_iff_eq, beq_eq_false_iff_ne, bne_iff_ne, ne_eq, bne_eq_false_iff_eq, Bool.or_eq_true, Bool.and_eq_true, Bool.or_eq_false_iff, Bool.and_eq_false_imp])
  rw [f1, f2, f3, f4, f5, f6, f7, f8, f9]
  have d0 : w = 0 → decP w = pz := fun h => by unfold decP; rw [if_pos h]
  have d1 : ¬w = 0 → w % 4 = 0 → decP w = ⟨1, offP w, w / 4294967296 % 65536, w / 281474976710656, 0, 0, 0, false⟩ := fun hz h => by unfold decP; rw [if_neg hz, if_pos h]
  have d2 : ¬w = 0 → ¬w % 4 = 0 → w % 4 = 1 → decP w = ⟨2, offP w, 0, 0, w / 4294967296 % 8, w / 34359738368, 0, false⟩ := fun hz h0 h => by unfold decP; rw [if_neg hz, if_neg h0, if_pos h]
  have d3 : ¬w = 0 → ¬w % 4 = 0 → ¬w % 4 = 1 → w % 4 = 2 → decP w = ⟨3, w / 8 % 536870912, 0, 0, 0, 0, w / 4294967296, w / 4 % 2 == 1⟩ := fun hz h0 h1 h => by
    unfold decP; rw [if_neg hz, if_neg h0, if_neg h1, if_pos h]; rfl
  have d4 : ¬w = 0 → ¬w % 4 = 0 → ¬w % 4 = 1 → ¬w % 4 = 2 → decP w = ⟨4, 0, 0, 0, 0, 0, 0, false⟩ := fun hz h0 h1 h2 => by unfold decP; rw [if_neg hz, if_neg h0, if_neg h1, if_neg h2]
  have hr : res66 (w, ()) = .agg (enc .ptr (decP w)) := rfl
  have hs : ∀ {x y : Int} {b : Bool}, True := trivial
  rw [hr]
  refine ⟨fun h => by rw [d0 h]; (repeat' (first | exact trivial | exact rfl | refine And.intro ?_ ?_)), fun hz => ⟨ho _ _ (by decide) (by decide) (by decide) (by decide), fun hb => ?_, fun hb => ?_⟩⟩
  · have hof : offP w = w / 4 % 1073741824 - 1073741824 := by unfold offP; rw [if_pos hb]
    rw [← hof]
    refine ⟨by rw [hof]; ((unfold InR; omega)), ho _ _ (by decide) (by decide) (by decide) (by decide), fun h0 => ⟨ho _ _ (by decide) (by decide) (by decide) (by decide), ho _ _ (by decide) (by decide) (by decide) (by decide), ?_⟩, fun h0 => ⟨fun h1 => ⟨ho _ _ (by decide) (by decide) (by decide) (by decide), ho _ _ (by decide) (by decide) (by decide) (by decide), ?_⟩, fun h1 => ⟨fun h2 => ⟨ho _ _ (by decide) (by decide) (by decide) (by decide), ho _ _ (by decide) (by decide) (by decide) (by decide), ho _ _ (by decide) (by decide) (by decide) (by decide), ?_⟩, fun h2 => ?_⟩⟩⟩
    · rw [d1 hz h0]; (repeat' (first | exact trivial | exact rfl | refine And.intro ?_ ?_))
    · rw [d2 hz h0 h1]; (repeat' (first | exact trivial | exact rfl | refine And.intro ?_ ?_))
    · rw [d3 hz h0 h1 h2]; (repeat' (first | exact trivial | exact rfl | refine And.intro ?_ ?_))
    · rw [d4 hz h0 h1 h2]; (repeat' (first | exact trivial | exact rfl | refine And.intro ?_ ?_))
  · have hof : offP w = w / 4 % 1073741824 := by unfold offP; rw [if_neg hb]
    rw [← hof]
    refine ⟨ho _ _ (by decide) (by decide) (by decide) (by decide), fun h0 => ⟨ho _ _ (by decide) (by decide) (by decide) (by decide), ho _ _ (by decide) (by decide) (by decide) (by decide), ?_⟩, fun h0 => ⟨fun h1 => ⟨ho _ _ (by decide) (by decide) (by decide) (by decide), ho _ _ (by decide) (by decide) (by decide) (by decide), ?_⟩, fun h1 => ⟨fun h2 => ⟨ho _ _ (by decide) (by decide) (by decide) (by decide), ho _ _ (by decide) (by decide) (by decide) (by decide), ho _ _ (by decide) (by decide) (by decide) (by decide), ?_⟩, fun h2 => ?_⟩⟩⟩
    · rw [d1 hz h0]; (repeat' (first | exact trivial | exact rfl | refine And.intro ?_ ?_))
    · rw [d2 hz h0 h1]; (repeat' (first | exact trivial | exact rfl | refine And.intro ?_ ?_))
    · rw [d3 hz h0 h1 h2]; (repeat' (first | exact trivial | exact rfl | refine And.intro ?_ ?_))
    · rw [d4 hz h0 h1 h2]; (repeat' (first | exact trivial | exact rfl | refine And.intro ?_ ?_))

theorem c124 : Contract Try.prog cfg 124 spec124 := by
  refine make124 ?_
  intro n to _ _
  refine vc124 _ _ _ ?_
  (simp only [vcT, bif_tl, bif_fr, bif_tlf, bif_frf, Bool.not_eq_true', Bool.not_eq_false', decide_eq_true_eq, decide_eq_false_iff_not, beq_iff_eq, beq_eq_false_iff_ne, bne_iff_ne, ne_eq, bne_eq_false_iff_eq, Bool.or_eq_true, Bool.and_eq_true, Bool.or_eq_false_iff, Bool.and_eq_false_imp])
  refine ends_bool rfl ?_
  rw [Bool.eq_iff_iff]
  (simp only [vcT, bif_tl, bif_fr, bif_tlf, bif_frf, Bool.not_eq_true', Bool.not_eq_false', decide_eq_true_eq, decide_eq_false_iff_not, beq_iff_eq, beq_eq_false_iff_ne, bne_iff_ne, ne_eq, bne_eq_false_iff_eq, Bool.or_eq_true, Bool.and_eq_true, Bool.or_eq_false_iff, Bool.and_eq_false_imp])

theorem c115 : Contract Try.prog cfg 115 spec115 := by
  refine make115 ?_
  intro p _ hp
  simp only [pre115] at hp
  have h1 := hp.data
  have h2 := hp.ptrs
  have h3 := hp.code
  have h4 := hp.count
  refine vc115 _ _ ?_
  (simp only [vcT, bif_tl, bif_fr, bif_tlf, bif_frf, Bool.not_eq_true', Bool.not_eq_false', decide_eq_true_eq, decide_eq_false_iff_not, beq_iff_eq, beq_eq_false_iff_ne, bne_iff_ne, ne_eq, bne_eq_false_iff_eq, Bool.or_eq_true, Bool.and_eq_true, Bool.or_eq_false_iff, Bool.and_eq_false_imp])
  have ht : ∀ k : Int, 0 < k → IntKind.wrap .i64 (Int.tdiv p.count k) = p.count / k := fun k hk => by
    rw [Int.tdiv_eq_ediv_of_nonneg h4.1]
    have := Int.ediv_nonneg h4.1 (Int.le_of_lt hk)
    have := Int.ediv_le_self k h4.1
    exact wrap_i64 (by omega) (by omega)
  have hm : ∀ k : Int, Int.tmod p.count k = p.count % k := fun k => Int.tmod_eq_emod_of_nonneg h4.1
  simp only [ht 64 (by decide), ht 8 (by decide), ht 4 (by decide), ht 2 (by decide), ht 1 (by decide), hm]
  (repeat' (first | with_reducible (refine And.intro ?_ ?_) | with_reducible intro _))
  all_goals first
    | decide
    | (unfold InR; omega)
    | (refine ends_int rfl ?_
       show _ = wordsP p
       simp only [wordsP, bitsP]
       (repeat' split) <;> omega)

theorem c122 : Contract Try.prog cfg 122 spec122 := by
  refine make122 c124 ?_
  intro p _ hp
  simp only [pre122] at hp
  have h1 := hp.data
  have h2 := hp.ptrs
  have h3 := hp.code
  have h4 := hp.count
  refine vc122 _ _ ?_
  rintro y hy
  (simp only [vcT, bif_tl, bif_fr, bif_tlf, bif_frf, Bool.not_eq_true', Bool.not_eq_false', decide_eq_true_eq, decide_eq_false_iff_not, beq_iff_eq, beq_eq_false_iff_ne, bne_iff_ne, ne_eq, bne_eq_false_iff_eq, Bool.or_eq_true, Bool.and_eq_true, Bool.or_eq_false_iff, Bool.and_eq_false_imp])
  dsimp only at hy
  have hy' : p.code ≤ 6 → y = bitsP p.code := fun h => by
    have : p.code = 0 ∨ p.code = 1 ∨ p.code = 2 ∨ p.code = 3 ∨ p.code = 4 ∨ p.code = 5 ∨ p.code = 6 := by omega
    rcases this with e | e | e | e | e | e | e <;> rw [hy, e] <;> decide
  have hb : 0 ≤ bitsP p.code ∧ bitsP p.code ≤ 64 := by unfold bitsP; (repeat' split) <;> omega
  have hc : p.code ≤ 6 → 0 ≤ p.count * y ∧ p.count * y ≤ 34359738368 := fun h => by
    rw [hy' h]
    have := Int.mul_le_mul (Int.le_of_lt h4.2) hb.2 hb.1 (by decide : (0 : Int) ≤ 536870912)
    exact ⟨Int.mul_nonneg h4.1 hb.1, by omega⟩
  have hr : ∀ n : Int, 0 ≤ n → wordsP p = n → res122 (p, ()) = .tup [(false, [.int .i64 n]), (false, [.bool true])] := fun n h0 h => by
    simp only [res122]; rw [h, if_neg (by omega), decide_eq_true h0]
  have hr' : wordsP p < 0 → res122 (p, ()) = .tup [(false, [.int .i64 0]), (false, [.bool false])] := fun h => by
    simp only [res122]; rw [if_pos h, decide_eq_false (by omega)]
  refine ⟨fun k1 => ⟨by ((unfold InR; omega)), ?_⟩, fun k1 => ⟨fun k2 => ⟨by ((unfold InR; omega)), ?_⟩, fun k2 => ⟨fun _ => trivial, fun _ => trivial, fun k3 => ?_, fun k3 => ?_⟩⟩⟩
  · rw [hr (p.data + p.ptrs) (by omega) (by unfold wordsP; rw [if_pos k1])]; (repeat' (first | exact trivial | exact rfl | refine And.intro ?_ ?_))
  · rw [hr (p.count + 1) (by omega) (by unfold wordsP; rw [if_neg k1, if_pos k2.1, if_pos k2.2])]; (repeat' (first | exact trivial | exact rfl | refine And.intro ?_ ?_))
  · have hcc := hc k3.1.2.2
    rw [Int.tdiv_eq_ediv_of_nonneg (by omega), wrap_i64 (by omega) (by omega)]
    refine ⟨by omega, by ((unfold InR; omega)), by ((unfold InR; omega)), by decide, ?_⟩
    rw [hr ((p.count * y + 63) / 64) (by omega) (by unfold wordsP; rw [if_neg k1, if_pos k3.1.1, if_neg (by omega), if_neg (by omega), hy' k3.1.2.2])]; (repeat' (first | exact trivial | exact rfl | refine And.intro ?_ ?_))
  · have hn : wordsP p < 0 := by
      unfold wordsP
      rw [if_neg k1]
      split
      · rw [if_neg (by omega), if_pos (by omega)]; decide
      · decide
    rw [hr' hn]; (repeat' (first | exact trivial | exact rfl | refine And.intro ?_ ?_))

end Go.AM.Ythokdjgpdonhgaa

namespace Go.AM.Ythokdjgpdonhgaa
open Go.AM Go.Proofs

def args112 : ArgL (Option Arena × Unit) := (.cons (aPo .arena) .nil)
def pre112 (a : Option Arena × Unit) : Prop := okA a.1
noncomputable def res112 (a : Option Arena × Unit) : V U := .c (.int .i64 ((segO a.1).length : Int))
noncomputable def spec112 : Fs U := fs args112 (fun a => [pre112 a]) res112

def args111 : ArgL (Option Arena × Int × Unit) := (.cons (aPo .arena) (.cons (aInt .i64) .nil))
def pre111 (a : Option Arena × Int × Unit) : Prop := okA a.1
noncomputable def res111 (a : Option Arena × Int × Unit) : V U := .c (.int .i64 ((segAt (segO a.1) a.2.1).length : Int))
noncomputable def spec111 : Fs U := fs args111 (fun a => [pre111 a]) res111

def args85 : ArgL (Option Arena × Int × Int × Int × Unit) := (.cons (aPo .arena) (.cons (aInt .i64) (.cons (aInt .i64) (.cons (aInt .i64) .nil))))
def pre85 (a : Option Arena × Int × Int × Int × Unit) : Prop := okA a.1
noncomputable def res85 (a : Option Arena × Int × Int × Int × Unit) : V U := .c (.bool (hasN (segO a.1) a.2.1 a.2.2.1 a.2.2.2.1))
noncomputable def spec85 : Fs U := fs args85 (fun a => [pre85 a]) res85

def args62 : ArgL (Option Arena × Int × Int × Unit) := (.cons (aPo .arena) (.cons (aInt .i64) (.cons (aInt .i64) .nil)))
def pre62 (a : Option Arena × Int × Int × Unit) : Prop := okA a.1
noncomputable def res62 (a : Option Arena × Int × Int × Unit) : V U := .tup [(false, [.int .u64 (if hasN (segO a.1) a.2.1 a.2.2.1 1 then getS (segO a.1) a.2.1 a.2.2.1 else 0)]), (false, [.bool (hasN (segO a.1) a.2.1 a.2.2.1 1)])]
noncomputable def spec62 : Fs U := fs args62 (fun a => [pre62 a]) res62

def args60 : ArgL (List Int × Unit) := (.cons (aSl .u64) .nil)
def pre60 (a : List Int × Unit) : Prop := a.1.length ≤ 17592186044416
noncomputable def res60 (a : List Int × Unit) : V U := .c (.slice (U := U) .u64 a.1 .unk)
noncomputable def spec60 : Fs U := fs args60 (fun a => [pre60 a]) res60

def args114 : ArgL (Option Arena × Int × Int × Int × Unit) := (.cons (aPo .arena) (.cons (aInt .i64) (.cons (aInt .i64) (.cons (aInt .i64) .nil))))
def pre114 (a : Option Arena × Int × Int × Int × Unit) : Prop := okA a.1
noncomputable def res114 (a : Option Arena × Int × Int × Int × Unit) : V U := .tup [(false, [.slice (U := U) .u64 (if hasN (segO a.1) a.2.1 a.2.2.1 a.2.2.2.1 then partS (segO a.1) a.2.1 a.2.2.1 a.2.2.2.1 else []) .unk]), (false, [.bool (hasN (segO a.1) a.2.1 a.2.2.1 a.2.2.2.1)])]
noncomputable def spec114 : Fs U := fs args114 (fun a => [pre114 a]) res114

def args20 : ArgL (List (List Int) × Unit) := (.cons (aSl .words) .nil)
def pre20 (a : List (List Int) × Unit) : Prop := okSeg a.1
noncomputable def res20 (a : List (List Int) × Unit) : V U := .c (.po (U := U) .arena (some (Arena.mk a.1 0 0 0)))
noncomputable def spec20 : Fs U := fs args20 (fun a => [pre20 a]) res20

noncomputable def know112 : List (FuncId × Fs U) := []
def lv112 : Lives U := fun i => match i with
  | 0 => ([(0, [])], [])
  | 1 => ([(0, []), (4, [])], [])
  | 2 => ([(2, [])], [])
  | 3 => ([(2, [])], [])
  | _ => ([], [])
noncomputable abbrev A112 (p : List Nat) := awp cfg (know know112) (drawOk cfg (know know112)) Try.f112.ntmps lv112 (cd Try.f112 p)
theorem vc112 (a : Option Arena) (Q : AExit → LSt U → Prop) (h : ((((Option.isNone a) = true → (Q .ret (⟨[(2, .c (.int .i64 0))], [], []⟩ : LSt U))) ∧ ((Option.isNone a) = false → (Option.isSome a = true) ∧ (Option.isSome a = true) ∧ (Q .ret (⟨[(2, .c (.int .i64 ((Arena.segs (Option.getD a (Arena.mk [] 0 0 0))).length : Int)))], [], []⟩ : LSt U)))))) :
    A112 [] (⟨[(0, .c (.po (U := U) .arena a))], [], []⟩ : LSt U) Q :=
  Eq.mpr (by kernel_rfl) h
def Body112 (a : Option Arena)  : Prop := awp cfg (know (know112)) (drawOk cfg (know (know112))) Try.f112.ntmps lv112 (cd Try.f112 []) (entry (args112.can (a, ())) []) (EndsQ cfg Try.f112.ntmps Try.f112.results.toList (res112 (a, ())) [])
theorem make112 (hb : ∀ (a : Option Arena) (_ : Unit), pre112 (a, ()) → Body112 a) : Contract Try.prog cfg 112 spec112 :=
  contract_flat (l := []) cfgOk rfl (trivial) lv112 Try.func112 rfl rfl 1 (fun _ => rfl) (by decide) (fun ⟨a, _⟩ => hb a ())

noncomputable def know111 : List (FuncId × Fs U) := [(112, spec112)]
def lv111 : Lives U := fun i => match i with
  | 0 => ([(0, []), (1, [])], [])
  | 1 => ([(0, []), (1, []), (12, [])], [])
  | 2 => ([(4, [])], [])
  | 3 => ([(4, [])], [])
  | _ => ([], [])
noncomputable abbrev A111 (p : List Nat) := awp cfg (know know111) (drawOk cfg (know know111)) Try.f111.ntmps lv111 (cd Try.f111 p)
theorem vc111 (a : Option Arena) (s : Int) (Q : AExit → LSt U → Prop) (h : ((Tr ((!(decide ((s : Int) < 0))) = true)) ∧ ((!(decide ((s : Int) < 0))) = true → pre112 (a, ())) ∧ (Tr ((!(decide ((s : Int) < 0))) = true)) ∧ (Tr ((!(decide ((s : Int) < 0))) = true)) ∧ (((decide ((s : Int) < 0)) = false → (!(decide ((s : Int) < 0))) = true)) ∧ (((bif (decide ((s : Int) < 0)) then true else (decide ((((segO a).length : Int) : Int) ≤ s))) = true → (Q .ret (⟨[(4, .c (.int .i64 0))], [], []⟩ : LSt U))) ∧ ((bif (decide ((s : Int) < 0)) then true else (decide ((((segO a).length : Int) : Int) ≤ s))) = false → (Option.isSome a = true) ∧ (Option.isSome a = true) ∧ ((0 : Int) ≤ s ∧ s < ((Arena.segs (Option.getD a (Arena.mk [] 0 0 0))).length : Int)) ∧ (Q .ret (⟨[(4, .c (.int .i64 ((List.getD (Arena.segs (Option.getD a (Arena.mk [] 0 0 0))) (Int.toNat s) ([] : List Int)).length : Int)))], [], []⟩ : LSt U)))))) :
    A111 [] (⟨[(0, .c (.po (U := U) .arena a)), (1, .c (.int .i64 s))], [], []⟩ : LSt U) Q :=
  Eq.mpr (by kernel_rfl) h
def Body111 (a : Option Arena) (s : Int)  : Prop := awp cfg (know (know111)) (drawOk cfg (know (know111))) Try.f111.ntmps lv111 (cd Try.f111 []) (entry (args111.can (a, s, ())) []) (EndsQ cfg Try.f111.ntmps Try.f111.results.toList (res111 (a, s, ())) [])
theorem make111 (c112 : Contract Try.prog cfg 112 spec112) (hb : ∀ (a : Option Arena) (s : Int) (_ : Unit), pre111 (a, s, ()) → Body111 a s) : Contract Try.prog cfg 111 spec111 :=
  contract_flat (l := [(112, spec112)]) cfgOk rfl (⟨c112, trivial⟩) lv111 Try.func111 rfl rfl 2 (fun _ => rfl) (by decide) (fun ⟨a, s, _⟩ => hb a s ())

noncomputable def know85 : List (FuncId × Fs U) := [(112, spec112), (111, spec111)]
def lv85 : Lives U := fun i => match i with
  | 0 => ([(0, []), (1, []), (2, []), (3, [])], [])
  | 1 => ([(0, []), (1, []), (2, []), (3, []), (9, [])], [])
  | 2 => ([(8, [])], [])
  | _ => ([], [])
noncomputable abbrev A85 (p : List Nat) := awp cfg (know know85) (drawOk cfg (know know85)) Try.f85.ntmps lv85 (cd Try.f85 p)
theorem vc85 (a : Option Arena) (s : Int) (at_ : Int) (n : Int) (Q : AExit → LSt U → Prop) (h : ((pre111 (a, s, ())) ∧ ((Tr ((decide ((0 : Int) ≤ s)) = true)) ∧ ((decide ((0 : Int) ≤ s)) = true → pre112 (a, ())) ∧ (Tr ((decide ((0 : Int) ≤ s)) = true)) ∧ (Tr ((decide ((0 : Int) ≤ s)) = true)) ∧ ((Tr ((decide ((0 : Int) ≤ s)) = true))) ∧ (Tr ((bif (decide ((0 : Int) ≤ s)) then (decide ((s : Int) < ((segO a).length : Int))) else false) = true)) ∧ ((Tr ((bif (decide ((0 : Int) ≤ s)) then (decide ((s : Int) < ((segO a).length : Int))) else false) = true))) ∧ (Tr ((bif (bif (decide ((0 : Int) ≤ s)) then (decide ((s : Int) < ((segO a).length : Int))) else false) then (decide ((0 : Int) ≤ at_)) else false) = true)) ∧ ((Tr ((bif (bif (decide ((0 : Int) ≤ s)) then (decide ((s : Int) < ((segO a).length : Int))) else false) then (decide ((0 : Int) ≤ at_)) else false) = true))) ∧ (Tr ((bif (bif (bif (decide ((0 : Int) ≤ s)) then (decide ((s : Int) < ((segO a).length : Int))) else false) then (decide ((0 : Int) ≤ at_)) else false) then (decide ((0 : Int) ≤ n)) else false) = true)) ∧ (Tr ((bif (bif (bif (decide ((0 : Int) ≤ s)) then (decide ((s : Int) < ((segO a).length : Int))) else false) then (decide ((0 : Int) ≤ at_)) else false) then (decide ((0 : Int) ≤ n)) else false) = true)) ∧ ((Tr ((bif (bif (bif (decide ((0 : Int) ≤ s)) then (decide ((s : Int) < ((segO a).length : Int))) else false) then (decide ((0 : Int) ≤ at_)) else false) then (decide ((0 : Int) ≤ n)) else false) = true))) ∧ (Tr ((bif (bif (bif (bif (decide ((0 : Int) ≤ s)) then (decide ((s : Int) < ((segO a).length : Int))) else false) then (decide ((0 : Int) ≤ at_)) else false) then (decide ((0 : Int) ≤ n)) else false) then (decide ((n : Int) ≤ ((segAt (segO a) s).length : Int))) else false) = true)) ∧ (Tr ((bif (bif (bif (bif (decide ((0 : Int) ≤ s)) then (decide ((s : Int) < ((segO a).length : Int))) else false) then (decide ((0 : Int) ≤ at_)) else false) then (decide ((0 : Int) ≤ n)) else false) then (decide ((n : Int) ≤ ((segAt (segO a) s).length : Int))) else false) = true)) ∧ ((bif (bif (bif (bif (decide ((0 : Int) ≤ s)) then (decide ((s : Int) < ((segO a).length : Int))) else false) then (decide ((0 : Int) ≤ at_)) else false) then (decide ((0 : Int) ≤ n)) else false) then (decide ((n : Int) ≤ ((segAt (segO a) s).length : Int))) else false) = true → InR ((((segAt (segO a) s).length : Int) : Int) - n)) ∧ (Tr ((bif (bif (bif (bif (decide ((0 : Int) ≤ s)) then (decide ((s : Int) < ((segO a).length : Int))) else false) then (decide ((0 : Int) ≤ at_)) else false) then (decide ((0 : Int) ≤ n)) else false) then (decide ((n : Int) ≤ ((segAt (segO a) s).length : Int))) else false) = true)) ∧ (Tr ((bif (bif (bif (bif (decide ((0 : Int) ≤ s)) then (decide ((s : Int) < ((segO a).length : Int))) else false) then (decide ((0 : Int) ≤ at_)) else false) then (decide ((0 : Int) ≤ n)) else false) then (decide ((n : Int) ≤ ((segAt (segO a) s).length : Int))) else false) = true)) ∧ ((Tr ((bif (bif (bif (bif (decide ((0 : Int) ≤ s)) then (decide ((s : Int) < ((segO a).length : Int))) else false) then (decide ((0 : Int) ≤ at_)) else false) then (decide ((0 : Int) ≤ n)) else false) then (decide ((n : Int) ≤ ((segAt (segO a) s).length : Int))) else false) = true))) ∧ (Q .ret (⟨[(8, .c (.bool (bif (bif (bif (bif (bif (decide ((0 : Int) ≤ s)) then (decide ((s : Int) < ((segO a).length : Int))) else false) then (decide ((0 : Int) ≤ at_)) else false) then (decide ((0 : Int) ≤ n)) else false) then (decide ((n : Int) ≤ ((segAt (segO a) s).length : Int))) else false) then (decide ((at_ : Int) ≤ ((((segAt (segO a) s).length : Int) : Int) - n))) else false)))], [], []⟩ : LSt U))))) :
    A85 [] (⟨[(0, .c (.po (U := U) .arena a)), (1, .c (.int .i64 s)), (2, .c (.int .i64 at_)), (3, .c (.int .i64 n))], [], []⟩ : LSt U) Q :=
  Eq.mpr (by kernel_rfl) h
def Body85 (a : Option Arena) (s : Int) (at_ : Int) (n : Int)  : Prop := awp cfg (know (know85)) (drawOk cfg (know (know85))) Try.f85.ntmps lv85 (cd Try.f85 []) (entry (args85.can (a, s, at_, n, ())) []) (EndsQ cfg Try.f85.ntmps Try.f85.results.toList (res85 (a, s, at_, n, ())) [])
theorem make85 (c112 : Contract Try.prog cfg 112 spec112) (c111 : Contract Try.prog cfg 111 spec111) (hb : ∀ (a : Option Arena) (s : Int) (at_ : Int) (n : Int) (_ : Unit), pre85 (a, s, at_, n, ()) → Body85 a s at_ n) : Contract Try.prog cfg 85 spec85 :=
  contract_flat (l := [(112, spec112), (111, spec111)]) cfgOk rfl (⟨c112, c111, trivial⟩) lv85 Try.func85 rfl rfl 4 (fun _ => rfl) (by decide) (fun ⟨a, s, at_, n, _⟩ => hb a s at_ n ())

noncomputable def know62 : List (FuncId × Fs U) := [(85, spec85)]
def lv62 : Lives U := fun i => match i with
  | 0 => ([(0, []), (1, []), (2, [])], [])
  | 1 => ([(0, []), (1, []), (2, []), (12, [])], [])
  | 2 => ([(6, []), (7, [])], [])
  | 3 => ([(6, []), (7, [])], [])
  | _ => ([], [])
noncomputable abbrev A62 (p : List Nat) := awp cfg (know know62) (drawOk cfg (know know62)) Try.f62.ntmps lv62 (cd Try.f62 p)
theorem vc62 (a : Option Arena) (s : Int) (at_ : Int) (Q : AExit → LSt U → Prop) (h : ((pre85 (a, s, at_, 1, ())) ∧ (((!(hasN (segO a) s at_ 1)) = true → (Q .ret (⟨[(6, .c (.int .u64 0)), (7, .c (.bool false))], [], []⟩ : LSt U))) ∧ ((!(hasN (segO a) s at_ 1)) = false → (Option.isSome a = true) ∧ (Option.isSome a = true) ∧ ((0 : Int) ≤ s ∧ s < ((Arena.segs (Option.getD a (Arena.mk [] 0 0 0))).length : Int)) ∧ ((0 : Int) ≤ at_ ∧ at_ < ((List.getD (Arena.segs (Option.getD a (Arena.mk [] 0 0 0))) (Int.toNat s) ([] : List Int)).length : Int)) ∧ (Q .ret (⟨[(6, .c (.int .u64 (List.getD (List.getD (Arena.segs (Option.getD a (Arena.mk [] 0 0 0))) (Int.toNat s) ([] : List Int)) (Int.toNat at_) (0 : Int)))), (7, .c (.bool true))], [], []⟩ : LSt U)))))) :
    A62 [] (⟨[(0, .c (.po (U := U) .arena a)), (1, .c (.int .i64 s)), (2, .c (.int .i64 at_))], [], []⟩ : LSt U) Q :=
  Eq.mpr (by kernel_rfl) h
def Body62 (a : Option Arena) (s : Int) (at_ : Int)  : Prop := awp cfg (know (know62)) (drawOk cfg (know (know62))) Try.f62.ntmps lv62 (cd Try.f62 []) (entry (args62.can (a, s, at_, ())) []) (EndsQ cfg Try.f62.ntmps Try.f62.results.toList (res62 (a, s, at_, ())) [])
theorem make62 (c85 : Contract Try.prog cfg 85 spec85) (hb : ∀ (a : Option Arena) (s : Int) (at_ : Int) (_ : Unit), pre62 (a, s, at_, ()) → Body62 a s at_) : Contract Try.prog cfg 62 spec62 :=
  contract_flat (l := [(85, spec85)]) cfgOk rfl (⟨c85, trivial⟩) lv62 Try.func62 rfl rfl 3 (fun _ => rfl) (by decide) (fun ⟨a, s, at_, _⟩ => hb a s at_ ())

noncomputable def know60 : List (FuncId × Fs U) := []
def lv60 : Lives U := fun i => match i with
  | 0 => ([(0, [])], [])
  | 1 => ([(0, []), (4, [])], [])
  | 2 => ([(2, [])], [])
  | 3 => ([(2, [])], [])
  | _ => ([], [])
noncomputable abbrev A60 (p : List Nat) := awp cfg (know know60) (drawOk cfg (know know60)) Try.f60.ntmps lv60 (cd Try.f60 p)
theorem vc60 (l : List Int) (Q : AExit → LSt U → Prop) (h : ((((l = []) → (Q .ret (⟨[(2, .c (.nils))], [], []⟩ : LSt U))) ∧ ((True) → ((([] : List Int).length + l.length) * 8 ≤ 140737488355328) ∧ (Q .ret (⟨[(2, .c (.slice (U := U) .u64 (([] : List Int) ++ l) (.own (.e 2 0))))], [], []⟩ : LSt U)))))) :
    A60 [] (⟨[(0, .c (.slice (U := U) .u64 l .unk))], [], []⟩ : LSt U) Q :=
  Eq.mpr (by kernel_rfl) h
def Body60 (l : List Int)  : Prop := awp cfg (know (know60)) (drawOk cfg (know (know60))) Try.f60.ntmps lv60 (cd Try.f60 []) (entry (args60.can (l, ())) []) (EndsQ cfg Try.f60.ntmps Try.f60.results.toList (res60 (l, ())) [])
theorem make60 (hb : ∀ (l : List Int) (_ : Unit), pre60 (l, ()) → Body60 l) : Contract Try.prog cfg 60 spec60 :=
  contract_flat (l := []) cfgOk rfl (trivial) lv60 Try.func60 rfl rfl 1 (fun _ => rfl) (by decide) (fun ⟨l, _⟩ => hb l ())

noncomputable def know114 : List (FuncId × Fs U) := [(85, spec85), (60, spec60)]
def lv114 : Lives U := fun i => match i with
  | 0 => ([(0, []), (1, []), (2, []), (3, [])], [])
  | 1 => ([(0, []), (1, []), (2, []), (3, []), (15, [])], [])
  | 2 => ([(8, []), (9, [])], [])
  | 3 => ([(8, []), (9, [])], [])
  | _ => ([], [])
noncomputable abbrev A114 (p : List Nat) := awp cfg (know know114) (drawOk cfg (know know114)) Try.f114.ntmps lv114 (cd Try.f114 p)
theorem vc114 (a : Option Arena) (s : Int) (at_ : Int) (n : Int) (Q : AExit → LSt U → Prop) (h : ((pre85 (a, s, at_, n, ())) ∧ (((!(hasN (segO a) s at_ n)) = true → (Q .ret (⟨[(8, .c (.nils)), (9, .c (.bool false))], [], []⟩ : LSt U))) ∧ ((!(hasN (segO a) s at_ n)) = false → (Option.isSome a = true) ∧ (Option.isSome a = true) ∧ ((0 : Int) ≤ s ∧ s < ((Arena.segs (Option.getD a (Arena.mk [] 0 0 0))).length : Int)) ∧ (InR ((at_ : Int) + n)) ∧ ((0 : Int) ≤ at_ ∧ at_ ≤ ((at_ : Int) + n) ∧ ((at_ : Int) + n) ≤ ((List.getD (Arena.segs (Option.getD a (Arena.mk [] 0 0 0))) (Int.toNat s) ([] : List Int)).length : Int)) ∧ (pre60 ((List.drop (Int.toNat at_) (List.take (Int.toNat ((at_ : Int) + n)) (List.getD (Arena.segs (Option.getD a (Arena.mk [] 0 0 0))) (Int.toNat s) ([] : List Int)))), ())) ∧ (Q .ret (⟨[(8, .c (.slice (U := U) .u64 (List.drop (Int.toNat at_) (List.take (Int.toNat ((at_ : Int) + n)) (List.getD (Arena.segs (Option.getD a (Arena.mk [] 0 0 0))) (Int.toNat s) ([] : List Int)))) .unk)), (9, .c (.bool true))], [], []⟩ : LSt U)))))) :
    A114 [] (⟨[(0, .c (.po (U := U) .arena a)), (1, .c (.int .i64 s)), (2, .c (.int .i64 at_)), (3, .c (.int .i64 n))], [], []⟩ : LSt U) Q :=
  Eq.mpr (by kernel_rfl) h
def Body114 (a : Option Arena) (s : Int) (at_ : Int) (n : Int)  : Prop := awp cfg (know (know114)) (drawOk cfg (know (know114))) Try.f114.ntmps lv114 (cd Try.f114 []) (entry (args114.can (a, s, at_, n, ())) []) (EndsQ cfg Try.f114.ntmps Try.f114.results.toList (res114 (a, s, at_, n, ())) [])
theorem make114 (c85 : Contract Try.prog cfg 85 spec85) (c60 : Contract Try.prog cfg 60 spec60) (hb : ∀ (a : Option Arena) (s : Int) (at_ : Int) (n : Int) (_ : Unit), pre114 (a, s, at_, n, ()) → Body114 a s at_ n) : Contract Try.prog cfg 114 spec114 :=
  contract_flat (l := [(85, spec85), (60, spec60)]) cfgOk rfl (⟨c85, c60, trivial⟩) lv114 Try.func114 rfl rfl 4 (fun _ => rfl) (by decide) (fun ⟨a, s, at_, n, _⟩ => hb a s at_ n ())

noncomputable def know20 : List (FuncId × Fs U) := [(60, spec60)]
def lv20 : Lives U := fun i => match i with
  | 0 => ([(0, [])], [])
  | 1 => ([(0, []), (3, [])], [((.loc 7), [])])
  | 2 => ([(3, []), (8, []), (9, []), (10, [])], [((.loc 7), [.own .words])])
  | 3 => ([(3, []), (8, []), (9, []), (10, []), (11, [])], [((.loc 7), [])])
  | 4 => ([(3, []), (5, []), (8, []), (9, []), (10, [])], [((.loc 7), [])])
  | 5 => ([(3, []), (8, []), (9, []), (10, [])], [((.loc 7), [])])
  | 6 => ([(3, []), (8, []), (9, []), (10, [])], [((.loc 7), [.own .words])])
  | 7 => ([(2, [.pt .arena])], [((.loc 7), [])])
  | _ => ([], [])
noncomputable def head20_0 (l : List (List Int)) (x10 : Int) (ml7_0 : List (List Int)) : LSt U := (⟨[(3, .ptr (.loc 7) 0), (8, .c (.slice (U := U) .words l .unk)), (9, .c (.int .i64 (l.length : Int))), (10, .c (.int .i64 x10))], [((.loc 7), [.slice (U := U) .words ml7_0 (.own (.l 7 0)), .int .i64 0, .int .i64 0, .int .i64 0])], []⟩ : LSt U)
noncomputable abbrev A20 (p : List Nat) := awp cfg (know know20) (drawOk cfg (know know20)) Try.f20.ntmps lv20 (cd Try.f20 p)
noncomputable abbrev S20 (p : List Nat) := seqK cfg (know know20) (drawOk cfg (know know20)) Try.f20.ntmps lv20 (cd Try.f20 p)
theorem vc20 (l : List (List Int)) (Q : AExit → LSt U → Prop) (h : (((LoopWp (A20 [1, 1, 0, 1, 0, 0]) (head20_0 l 0 ([])) (AExit.inBlock 0 (S20 [1, 1, 1] Q)))))) :
    A20 [] (⟨[(0, .c (.slice (U := U) .words l .unk))], [], []⟩ : LSt U) Q :=
  Eq.mpr (by kernel_rfl) h
theorem vc20_l0 (l : List (List Int)) (x10 : Int) (ml7_0 : List (List Int)) (N0 : LSt U → Prop) (Q : AExit → LSt U → Prop) (h : (((decide ((x10 : Int) < (l.length : Int))) = true → ((0 : Int) ≤ x10 ∧ x10 < (l.length : Int)) ∧ ((pre60 ((List.getD l (Int.toNat x10) ([] : List Int)), ())) ∧ ((ml7_0.length + ([(List.getD l (Int.toNat x10) ([] : List Int))]).length) * 24 ≤ 140737488355328) ∧ ((InR ((x10 : Int) + 1)) ∧ (N0 (head20_0 l ((x10 : Int) + 1) (ml7_0 ++ ([(List.getD l (Int.toNat x10) ([] : List Int))]))))))) ∧ ((decide ((x10 : Int) < (l.length : Int))) = false → (Q .ret (⟨[(2, .c (.po (U := U) .arena (some (Arena.mk ml7_0 0 0 0))))], [], []⟩ : LSt U))))) :
    A20 [1, 1, 0, 1, 0, 0] (head20_0 l x10 ml7_0) (AExit.then N0 (AExit.inBlock 0 (S20 [1, 1, 1] Q))) :=
  Eq.mpr (by kernel_rfl) h
def Body20 (l : List (List Int))  : Prop := awp cfg (know (know20)) (drawOk cfg (know (know20))) Try.f20.ntmps lv20 (cd Try.f20 []) (entry (args20.can (l, ())) []) (EndsQ cfg Try.f20.ntmps Try.f20.results.toList (res20 (l, ())) [])
theorem make20 (c60 : Contract Try.prog cfg 60 spec60) (hb : ∀ (l : List (List Int)) (_ : Unit), pre20 (l, ()) → Body20 l) : Contract Try.prog cfg 20 spec20 :=
  contract_flat (l := [(60, spec60)]) cfgOk rfl (⟨c60, trivial⟩) lv20 Try.func20 rfl rfl 1 (fun _ => rfl) (by decide) (fun ⟨l, _⟩ => hb l ())

end Go.AM.Ythokdjgpdonhgaa
