import Derived.Test.YthokdjgpdonhgaaBmY
import Derived.Test.YthokdjgpdonhgaaChecked
import Derived.Test.YthokdjgpdonhgaaQD2
import Derived.Test.YthokdjgpdonhgaaRows
import Derived.Test.YthokdjgpdonhgaaBmX
import Derived.ProofKit
set_option linter.unusedSimpArgs false
set_option linter.unusedVariables false
namespace Go.AM.Ythokdjgpdonhgaa
open Go.AM Go.Proofs
def el : Ty → TypeId
  | .u64 => 26
  | .u8 => 5
  | .int => 3
  | .words => 22
  | .tree => 53
  | .ptr => 89
  | .loc => 91
  | .arena => 84
  | .ref => 31
  | .xref => 42
  | .limits => 60
def tb : Tables U :=
  { el := el
    sl := [(22, .u64), (29, .words), (39, .int), (51, .tree)]
    var := [(2, false, [.int .i64 0]),
      (3, false, [.int .i64 0]),
      (4, false, [.bool false]),
      (5, false, [.int .u8 0]),
      (6, false, [.int .u8 0]),
      (7, true, [.int .i64 0, .int .i64 0, .bool false, .int .u8 0]),
      (8, true, [.int .i64 0, .int .i64 0, .bool false, .int .u8 0]),
      (12, false, [.int .u64 0]),
      (15, false, [.nilp]),
      (16, false, [.nilp]),
      (17, false, [.nilp]),
      (18, true, [.nilp]),
      (19, true, [.nilp]),
      (21, false, [.int .i32 0]),
      (22, false, [.nils]),
      (26, false, [.int .u64 0]),
      (27, false, [.nilp]),
      (29, false, [.nils]),
      (30, true, [.nilp, .int .i64 0, .int .i64 0, .int .i64 0, .int .i64 0, .int .i64 0, .int .i64 0, .int .u64 0]),
      (31, true, [.nilp, .int .i64 0, .int .i64 0, .int .i64 0, .int .i64 0, .int .i64 0, .int .i64 0, .int .u64 0]),
      (32, false, [.int .i64 0]),
      (39, false, [.nils]),
      (41, true, [.int .i64 0, .int .i64 0, .int .i64 0, .int .i64 0, .int .i64 0, .int .i64 0, .int .u64 0]),
      (42, true, [.int .i64 0, .int .i64 0, .int .i64 0, .int .i64 0, .int .i64 0, .int .i64 0, .int .u64 0]),
      (51, false, [.nils]),
      (52, true, [.int .i64 0, .nils, .nils]),
      (53, true, [.int .i64 0, .nils, .nils]),
      (59, true, [.int .i64 0, .int .i64 0, .int .i64 0, .int .i64 0]),
      (60, true, [.int .i64 0, .int .i64 0, .int .i64 0, .int .i64 0]),
      (70, false, [.int .u32 0]),
      (71, false, [.int .u64 0]),
      (83, true, [.nils, .int .i64 0, .int .i64 0, .int .i64 0]),
      (84, true, [.nils, .int .i64 0, .int .i64 0, .int .i64 0]),
      (88, true, [.int .i64 0, .int .i64 0, .int .i64 0, .int .i64 0, .int .i64 0, .int .i64 0, .int .i64 0, .bool false]),
      (89, true, [.int .i64 0, .int .i64 0, .int .i64 0, .int .i64 0, .int .i64 0, .int .i64 0, .int .i64 0, .bool false]),
      (90, true, [.int .i64 0, .int .i64 0, .int .i64 0, .int .i64 0, .int .i64 0, .int .i64 0, .int .i64 0, .bool false, .int .i64 0, .int .i64 0]),
      (91, true, [.int .i64 0, .int .i64 0, .int .i64 0, .int .i64 0, .int .i64 0, .int .i64 0, .int .i64 0, .bool false, .int .i64 0, .int .i64 0]),
      (94, true, [.int .i64 0, .int .i64 0, .int .i64 0, .int .i64 0, .int .i64 0, .int .i64 0, .int .i64 0, .bool false]),
      (95, true, [.int .i64 0, .int .i64 0, .int .i64 0, .int .i64 0, .int .i64 0, .int .i64 0, .int .i64 0, .bool false, .int .i64 0, .int .i64 0]),
      (96, true, [.int .i64 0, .int .i64 0, .int .i64 0, .int .i64 0, .int .i64 0, .int .i64 0, .int .i64 0, .bool false, .int .i64 0, .int .i64 0]),
      (105, false, [.nilp]),
      (106, true, [.nils]),
      (107, true, [.nils]),
      (110, false, [.nilp]),
      (111, true, [.int .i64 0, .int .i64 0]),
      (112, true, [.int .i64 0, .int .i64 0]),
      (138, true, [.int .i64 0, .int .i64 0, .int .i64 0, .int .i64 0, .int .i64 0, .int .i64 0]),
      (142, true, [.int .i64 0, .int .i64 0, .int .i64 0, .int .i64 0, .int .i64 0, .int .i64 0, .int .i64 0]),
      (149, false, [.int .u8 0]),
      (150, false, [.int .u8 0]),
      (152, false, [.nilp]),
      (153, false, [.int .i32 0]),
      (154, false, [.int .i32 0])]
    fld := [(7, 0, 0, 2), (7, 1, 1, 3), (7, 2, 2, 4), (7, 3, 3, 6), (8, 0, 0, 2), (8, 1, 1, 3), (8, 2, 2, 4), (8, 3, 3, 6), (18, 0, 0, 17), (19, 0, 0, 17), (30, 0, 0, 27), (30, 1, 1, 3), (30, 2, 2, 3), (30, 3, 3, 3), (30, 4, 4, 3), (30, 5, 5, 3), (30, 6, 6, 3), (30, 7, 7, 26), (31, 0, 0, 27), (31, 1, 1, 3), (31, 2, 2, 3), (31, 3, 3, 3), (31, 4, 4, 3), (31, 5, 5, 3), (31, 6, 6, 3), (31, 7, 7, 26), (41, 0, 0, 3), (41, 1, 1, 3), (41, 2, 2, 3), (41, 3, 3, 3), (41, 4, 4, 3), (41, 5, 5, 3), (41, 6, 6, 26), (42, 0, 0, 3), (42, 1, 1, 3), (42, 2, 2, 3), (42, 3, 3, 3), (42, 4, 4, 3), (42, 5, 5, 3), (42, 6, 6, 26), (52, 0, 0, 3), (52, 1, 1, 22), (52, 2, 2, 51), (53, 0, 0, 3), (53, 1, 1, 22), (53, 2, 2, 51), (59, 0, 0, 3), (59, 1, 1, 3), (59, 2, 2, 3), (59, 3, 3, 3), (60, 0, 0, 3), (60, 1, 1, 3), (60, 2, 2, 3), (60, 3, 3, 3), (83, 0, 0, 29), (83, 1, 1, 3), (83, 2, 2, 3), (83, 3, 3, 3), (84, 0, 0, 29), (84, 1, 1, 3), (84, 2, 2, 3), (84, 3, 3, 3), (88, 0, 0, 3), (88, 1, 1, 3), (88, 2, 2, 3), (88, 3, 3, 3), (88, 4, 4, 3), (88, 5, 5, 3), (88, 6, 6, 3), (88, 7, 7, 4), (89, 0, 0, 3), (89, 1, 1, 3), (89, 2, 2, 3), (89, 3, 3, 3), (89, 4, 4, 3), (89, 5, 5, 3), (89, 6, 6, 3), (89, 7, 7, 4), (90, 0, 0, 89), (90, 1, 8, 3), (90, 2, 9, 3), (91, 0, 0, 89), (91, 1, 8, 3), (91, 2, 9, 3), (94, 0, 0, 3), (94, 1, 1, 3), (94, 2, 2, 3), (94, 3, 3, 3), (94, 4, 4, 3), (94, 5, 5, 3), (94, 6, 6, 3), (94, 7, 7, 4), (95, 0, 0, 94), (95, 1, 8, 3), (95, 2, 9, 3), (96, 0, 0, 94), (96, 1, 8, 3), (96, 2, 9, 3), (106, 0, 0, 22), (107, 0, 0, 22), (111, 0, 0, 3), (111, 1, 1, 3), (112, 0, 0, 3), (112, 1, 1, 3)]
    arr := [(138, 6, 3), (142, 7, 3)]
    eqs := [7, 8, 41, 42, 59, 60, 88, 89, 94, 111, 112] }
def cfg : Cfg U := tb.cfg K
theorem varOk : tb.var.all (varB Try.prog) = true := by kernel_rfl
theorem slOk : tb.sl.all (slB Try.prog tb.el) = true := by kernel_rfl
theorem fldOk : tb.fld.all (fldB Try.prog) = true := by kernel_rfl
theorem arrOk : tb.arr.all (arrB Try.prog) = true := by kernel_rfl
theorem elOk : ∀ t, elB Try.prog K tb t = true := by
  intro t
  cases t
  · kernel_rfl
  · kernel_rfl
  · kernel_rfl
  · kernel_rfl
  · kernel_rfl
  · kernel_rfl
  · kernel_rfl
  · kernel_rfl
  · kernel_rfl
  · kernel_rfl
  · kernel_rfl
theorem cfgOk : CfgOk Try.prog cfg := tables_ok K_ok varOk slOk fldOk arrOk elOk (by kernel_rfl) (by kernel_rfl)
end Go.AM.Ythokdjgpdonhgaa


namespace Go.AM.Ythokdjgpdonhgaa
open Go.AM Go.Proofs

def args110 : ArgL (Int × Unit) := (.cons (aInt .i64) .nil)
def pre110 (a : Int × Unit) : Prop := True
noncomputable def res110 (a : Int × Unit) : V U := .tup [(false, [.int .i64 (if wd a.1 < 0 then 0 else wd a.1)]), (false, [.bool (decide (0 ≤ wd a.1))])]
noncomputable def spec110 : Fs U := fs args110 (fun a => [pre110 a]) res110

def args86 : ArgL (Int × Unit) := (.cons (aInt .u64) .nil)
def pre86 (a : Int × Unit) : Prop := (0 ≤ a.1 ∧ a.1 < 18446744073709551616)
noncomputable def res86 (a : Int × Unit) : V U := .agg [.int .i64 (Ptr.kind (decP a.1)), .int .i64 (Ptr.off (decP a.1)), .int .i64 (Ptr.data (decP a.1)), .int .i64 (Ptr.ptrs (decP a.1)), .int .i64 (Ptr.code (decP a.1)), .int .i64 (Ptr.count (decP a.1)), .int .i64 (Ptr.segment (decP a.1)), .bool (Ptr.double (decP a.1))]
noncomputable def spec86 : Fs U := fs args86 (fun a => [pre86 a]) res86

def args124 : ArgL (Int × Int × Unit) := (.cons (aInt .i64) (.cons (aInt .i64) .nil))
def pre124 (a : Int × Int × Unit) : Prop := True
noncomputable def res124 (a : Int × Int × Unit) : V U := .c (.bool (decide (0 ≤ a.1 ∧ a.1 ≤ a.2.1)))
noncomputable def spec124 : Fs U := fs args124 (fun a => [pre124 a]) res124

noncomputable def know110 : List (FuncId × Fs U) := []
def lv110 : Lives U := fun i => match i with
  | 0 => ([(0, [])], [])
  | 1 => ([(0, []), (4, [])], [((.loc 4), [])])
  | 2 => ([(0, []), (4, []), (11, [])], [((.loc 4), [])])
  | 3 => ([(2, []), (3, [])], [])
  | 4 => ([(2, []), (3, [])], [])
  | _ => ([], [])
noncomputable abbrev A110 (p : List Nat) := awp cfg (know know110) (drawOk cfg (know know110)) Try.f110.ntmps lv110 (cd Try.f110 p)
theorem vc110 (c : Int) (Q : AExit → LSt U → Prop) (h : (((Tr ((!(decide ((c : Int) < 0))) = true)) ∧ (((decide ((c : Int) < 0)) = false → (!(decide ((c : Int) < 0))) = true)) ∧ (((bif (decide ((c : Int) < 0)) then true else (decide ((6 : Int) ≤ c))) = true → (Q .ret (⟨[(2, .c (.int .i64 0)), (3, .c (.bool false))], [], []⟩ : LSt U))) ∧ ((bif (decide ((c : Int) < 0)) then true else (decide ((6 : Int) ≤ c))) = false → ((0 : Int) ≤ c ∧ c < ((6 : Nat) : Int)) ∧ (Q .ret (⟨[(2, .c (.int .i64 (List.getD [0, 1, 8, 16, 32, 64] (Int.toNat c) 0))), (3, .c (.bool true))], [], []⟩ : LSt U))))))) :
    A110 [] (⟨[(0, .c (.int .i64 c))], [], []⟩ : LSt U) Q :=
  Eq.mpr (by kernel_rfl) h
def Body110 (c : Int)  : Prop := awp cfg (know (know110)) (drawOk cfg (know (know110))) Try.f110.ntmps lv110 (cd Try.f110 []) (entry (args110.can (c, ())) []) (EndsQ cfg Try.f110.ntmps Try.f110.results.toList (res110 (c, ())) [])
theorem make110 (hb : ∀ (c : Int) (_ : Unit), pre110 (c, ()) → Body110 c) : Contract Try.prog cfg 110 spec110 :=
  contract_flat (l := []) cfgOk rfl (trivial) lv110 Try.func110 rfl rfl 1 (fun _ => rfl) (by decide) (fun ⟨c, _⟩ => hb c ())

noncomputable def know86 : List (FuncId × Fs U) := []
def lv86 : Lives U := fun i => match i with
  | 0 => ([(0, []), (2, [])], [((.loc 2), [])])
  | 1 => ([(0, []), (2, []), (3, [])], [((.loc 2), [])])
  | 2 => ([(0, []), (2, []), (3, []), (9, [])], [((.loc 2), [])])
  | 3 => ([(2, [])], [((.loc 2), [])])
  | 4 => ([(0, []), (2, []), (3, []), (13, [])], [((.loc 2), [])])
  | 5 => ([(2, [])], [((.loc 2), [])])
  | 6 => ([(0, []), (2, []), (3, []), (26, [])], [((.loc 2), [])])
  | 7 => ([(2, [])], [((.loc 2), [])])
  | 8 => ([(0, []), (2, []), (39, [])], [((.loc 2), [])])
  | 9 => ([(2, [])], [((.loc 2), [])])
  | 10 => ([(2, [])], [((.loc 2), [])])
  | _ => ([], [])
noncomputable abbrev A86 (p : List Nat) := awp cfg (know know86) (drawOk cfg (know know86)) Try.f86.ntmps lv86 (cd Try.f86 p)
theorem vc86 (w : Int) (Q : AExit → LSt U → Prop) (h : ∀ y_1, y_1 = (BitVec.ofInt (IntKind.bits .u64) w &&& BitVec.ofInt (IntKind.bits .u64) 3) → (((0 : Int) ≤ 2) ∧ (((((w : Int) == 0) = true → (Q .ret (⟨[(2, .ptr (.loc 2) 0)], [((.loc 2), [.int .i64 0, .int .i64 0, .int .i64 0, .int .i64 0, .int .i64 0, .int .i64 0, .int .i64 0, .bool false])], []⟩ : LSt U))) ∧ (((w : Int) == 0) = false → (((((IntKind.wrap .u64 y_1.toNat) : Int) == 0) = true → ((0 : Int) ≤ 32) ∧ ((0 : Int) ≤ 48) ∧ (Q .ret (⟨[(2, .ptr (.loc 2) 0)], [((.loc 2), [.int .i64 1, .int .i64 (Int.fdiv (IntKind.wrap .i64 (IntKind.wrap .i32 (IntKind.wrap .u32 w))) (2 ^ (min (Int.toNat 2) (IntKind.bits .i64)))), .int .i64 (IntKind.wrap .i64 (IntKind.wrap .u64 (BitVec.ofInt (IntKind.bits .u64) (Int.fdiv w (2 ^ (min (Int.toNat 32) (IntKind.bits .u64)))) &&& BitVec.ofInt (IntKind.bits .u64) 65535).toNat)), .int .i64 (IntKind.wrap .i64 (Int.fdiv w (2 ^ (min (Int.toNat 48) (IntKind.bits .u64))))), .int .i64 0, .int .i64 0, .int .i64 0, .bool false])], []⟩ : LSt U))) ∧ ((((IntKind.wrap .u64 y_1.toNat) : Int) == 0) = false → (((((IntKind.wrap .u64 y_1.toNat) : Int) == 1) = true → ((0 : Int) ≤ 32) ∧ ((0 : Int) ≤ 35) ∧ (Q .ret (⟨[(2, .ptr (.loc 2) 0)], [((.loc 2), [.int .i64 2, .int .i64 (Int.fdiv (IntKind.wrap .i64 (IntKind.wrap .i32 (IntKind.wrap .u32 w))) (2 ^ (min (Int.toNat 2) (IntKind.bits .i64)))), .int .i64 0, .int .i64 0, .int .i64 (IntKind.wrap .i64 (IntKind.wrap .u64 (BitVec.ofInt (IntKind.bits .u64) (Int.fdiv w (2 ^ (min (Int.toNat 32) (IntKind.bits .u64)))) &&& BitVec.ofInt (IntKind.bits .u64) 7).toNat)), .int .i64 (IntKind.wrap .i64 (Int.fdiv w (2 ^ (min (Int.toNat 35) (IntKind.bits .u64))))), .int .i64 0, .bool false])], []⟩ : LSt U))) ∧ ((((IntKind.wrap .u64 y_1.toNat) : Int) == 1) = false → (((((IntKind.wrap .u64 y_1.toNat) : Int) == 2) = true → ((0 : Int) ≤ 3) ∧ ((0 : Int) ≤ 32) ∧ (Q .ret (⟨[(2, .ptr (.loc 2) 0)], [((.loc 2), [.int .i64 3, .int .i64 (IntKind.wrap .i64 (IntKind.wrap .u64 (BitVec.ofInt (IntKind.bits .u64) (Int.fdiv w (2 ^ (min (Int.toNat 3) (IntKind.bits .u64)))) &&& BitVec.ofInt (IntKind.bits .u64) 536870911).toNat)), .int .i64 0, .int .i64 0, .int .i64 0, .int .i64 0, .int .i64 (IntKind.wrap .i64 (Int.fdiv w (2 ^ (min (Int.toNat 32) (IntKind.bits .u64))))), .bool (((IntKind.wrap .u64 (BitVec.ofInt (IntKind.bits .u64) w &&& BitVec.ofInt (IntKind.bits .u64) 4).toNat) : Int) != 0)])], []⟩ : LSt U))) ∧ ((((IntKind.wrap .u64 y_1.toNat) : Int) == 2) = false → (Q .ret (⟨[(2, .ptr (.loc 2) 0)], [((.loc 2), [.int .i64 4, .int .i64 0, .int .i64 0, .int .i64 0, .int .i64 0, .int .i64 0, .int .i64 0, .bool false])], []⟩ : LSt U))))))))))))) :
    A86 [] (⟨[(0, .c (.int .u64 w))], [], []⟩ : LSt U) Q :=
  Eq.mpr (by kernel_rfl) (h _ rfl)
def Body86 (w : Int)  : Prop := awp cfg (know (know86)) (drawOk cfg (know (know86))) Try.f86.ntmps lv86 (cd Try.f86 []) (entry (args86.can (w, ())) []) (EndsQ cfg Try.f86.ntmps Try.f86.results.toList (res86 (w, ())) [])
theorem make86 (hb : ∀ (w : Int) (_ : Unit), pre86 (w, ()) → Body86 w) : Contract Try.prog cfg 86 spec86 :=
  contract_flat (l := []) cfgOk rfl (trivial) lv86 Try.func86 rfl rfl 1 (fun _ => rfl) (by decide) (fun ⟨w, _⟩ => hb w ())

noncomputable def know124 : List (FuncId × Fs U) := []
def lv124 : Lives U := fun i => match i with
  | 0 => ([(0, []), (1, [])], [])
  | 1 => ([(4, [])], [])
  | _ => ([], [])
noncomputable abbrev A124 (p : List Nat) := awp cfg (know know124) (drawOk cfg (know know124)) Try.f124.ntmps lv124 (cd Try.f124 p)
theorem vc124 (n : Int) (to : Int) (Q : AExit → LSt U → Prop) (h : ((Tr ((decide ((0 : Int) ≤ n)) = true)) ∧ (Tr ((decide ((0 : Int) ≤ n)) = true)) ∧ ((Tr ((decide ((0 : Int) ≤ n)) = true))) ∧ (Q .ret (⟨[(4, .c (.bool (bif (decide ((0 : Int) ≤ n)) then (decide ((n : Int) ≤ to)) else false)))], [], []⟩ : LSt U)))) :
    A124 [] (⟨[(0, .c (.int .i64 n)), (1, .c (.int .i64 to))], [], []⟩ : LSt U) Q :=
  Eq.mpr (by kernel_rfl) h
def Body124 (n : Int) (to : Int)  : Prop := awp cfg (know (know124)) (drawOk cfg (know (know124))) Try.f124.ntmps lv124 (cd Try.f124 []) (entry (args124.can (n, to, ())) []) (EndsQ cfg Try.f124.ntmps Try.f124.results.toList (res124 (n, to, ())) [])
theorem make124 (hb : ∀ (n : Int) (to : Int) (_ : Unit), pre124 (n, to, ()) → Body124 n to) : Contract Try.prog cfg 124 spec124 :=
  contract_flat (l := []) cfgOk rfl (trivial) lv124 Try.func124 rfl rfl 2 (fun _ => rfl) (by decide) (fun ⟨n, to, _⟩ => hb n to ())

end Go.AM.Ythokdjgpdonhgaa

namespace Go.AM

def kidsR (r : Ref) : Int := if r.kind = 1 then r.kids else r.count
end Go.AM

namespace Go.AM.Ythokdjgpdonhgaa
open Go.AM Go.Proofs

theorem ends_bool {n k : Nat} {rs : List ResultVar} {b b' : Bool} (hr : rs = [ResultVar.tmp k]) (h : b = b') : EndsQ cfg n rs (.c (.bool b')) [] .ret (⟨[(k, .c (.bool b))], [], []⟩ : LSt U) := by
  subst hr h
  have hk : Nat.beq k k = true := Nat.beq_refl k
  simp [EndsQ, Ends, EndsL, LsEnd, resAll, resOne, LSt.toF, look, hk, partsV, resTok, passC, passC1, leR, leL, leC, XEnd]

theorem ends_int {n k : Nat} {rs : List ResultVar} {K : IntKind} {b b' : Int} (hr : rs = [ResultVar.tmp k]) (h : b = b') : EndsQ cfg n rs (.c (.int K b')) [] .ret (⟨[(k, .c (.int K b))], [], []⟩ : LSt U) := by
  subst hr h
  have hk : Nat.beq k k = true := Nat.beq_refl k
  simp [EndsQ, Ends, EndsL, LsEnd, resAll, resOne, LSt.toF, look, hk, partsV, resTok, passC, passC1, leR, leL, leC, XEnd]

theorem ends_eq {n : Nat} {rs : List ResultVar} {r r' : V U} {X : List (List (C U))} {e : AExit} {s : LSt U} (hr : r = r') (h : EndsQ cfg n rs r' X e s) : EndsQ cfg n rs r X e s := by rw [hr]; exact h

theorem mem_getD {α : Type} {l : List α} {i : Nat} (h : i < l.length) (d : α) : l.getD i d ∈ l := by
  rw [List.getD_eq_getElem?_getD, List.getElem?_eq_getElem h]
  exact List.getElem_mem h

theorem pow2_pos (k : Nat) : (0 : Int) < 2 ^ k := Int.pow_pos (by decide)
end Go.AM.Ythokdjgpdonhgaa

namespace Go.AM.Ythokdjgpdonhgaa
open Go.AM Go.Proofs

theorem wd_list {c : Int} (h0 : 0 ≤ c) (h1 : c < 6) : List.getD [0, 1, 8, 16, 32, 64] c.toNat 0 = wd c ∧ 0 ≤ wd c := by
  have : c = 0 ∨ c = 1 ∨ c = 2 ∨ c = 3 ∨ c = 4 ∨ c = 5 := by omega
  rcases this with rfl | rfl | rfl | rfl | rfl | rfl <;> decide

theorem wd_out {c : Int} (h : c < 0 ∨ 6 ≤ c) : wd c = -1 := by
  unfold wd
  repeat' split
  all_goals omega

theorem c110 : Contract Try.prog cfg 110 spec110 := by
  refine make110 ?_
  intro c _ _
  refine vc110 _ _ ?_
  (simp only [vcT, vcS])
  refine ⟨fun h => ?_, fun h => ⟨by omega, ?_⟩⟩
  · refine ends_eq (r' := .tup [(false, [.int .i64 0]), (false, [.bool false])]) ?_ (by (repeat' (first | exact trivial | exact rfl | refine And.intro ?_ ?_)))
    simp only [res110, wd_out h]
    rfl
  · have hw := wd_list (c := c) (by omega) (by omega)
    refine ends_eq (r' := .tup [(false, [.int .i64 (List.getD [0, 1, 8, 16, 32, 64] (Int.toNat c) 0)]), (false, [.bool true])]) ?_ (by (repeat' (first | exact trivial | exact rfl | refine And.intro ?_ ?_)))
    simp only [res110, hw.1]
    rw [if_neg (by omega), decide_eq_true hw.2]

theorem wd_div (c : Int) : wd c < 1 ∨ wd c = 1 ∨ wd c = 8 ∨ wd c = 16 ∨ wd c = 32 ∨ wd c = 64 := by have := wd_cases c; omega

theorem wd_le (c : Int) : -1 ≤ wd c ∧ wd c ≤ 64 := by have := wd_cases c; omega

theorem wd_at {c i : Int} (hi : 0 ≤ i) (hi' : i ≤ 1099511627776) (hw : 1 ≤ wd c) : 0 ≤ i * wd c ∧ i * wd c ≤ 70368744177664 ∧ i * wd c % 64 + wd c ≤ 64 ∧
    ∀ k, 0 ≤ k → k < wd c → (i * wd c + k) / 64 = i * wd c / 64 ∧ (i * wd c + k) % 64 = i * wd c % 64 + k := by
  rcases wd_div c with e | e | e | e | e | e
  · omega
  all_goals (rw [e]; refine ⟨by omega, by omega, by omega, fun k _ _ => ⟨by omega, by omega⟩⟩)

def wordW (l : List Int) (q : Int) : Int := if (l.length : Int) ≤ q then 0 else l.getD q.toNat 0

theorem getW_eq {l : List Int} {c i : Int} (hw : 1 ≤ wd c) (h0 : 0 ≤ i) (h1 : i ≤ 1099511627776) : getW l c i = wordW l (i * wd c / 64) / 2 ^ (i * wd c % 64).toNat % 2 ^ (wd c).toNat := by
  unfold getW wordW
  by_cases h2 : (l.length : Int) ≤ i * wd c / 64
  · rw [if_pos (by omega), if_pos h2]; simp
  · rw [if_neg (by omega), if_neg h2]

theorem shr_u64 {x : Int} {n : Int} (h0 : 0 ≤ n) (h1 : n ≤ 64) : Int.fdiv x (2 ^ (min n.toNat (IntKind.bits .u64))) = x / 2 ^ n.toNat := by
  rw [show min n.toNat (IntKind.bits .u64) = n.toNat by simp [IntKind.bits]; omega, Int.fdiv_eq_ediv_of_nonneg _ (Int.le_of_lt (pow2_pos _))]

theorem and3 {w : Int} (h0 : 0 ≤ w) (h1 : w < 18446744073709551616) : IntKind.wrap .u64 (BitVec.ofInt (IntKind.bits .u64) w &&& BitVec.ofInt (IntKind.bits .u64) 3).toNat = w % 4 := and_mask h0 h1 2 (by decide) rfl

theorem and4 {w : Int} (h0 : 0 ≤ w) (h1 : w < 18446744073709551616) : (IntKind.wrap .u64 (BitVec.ofInt (IntKind.bits .u64) w &&& BitVec.ofInt (IntKind.bits .u64) 4).toNat != 0) = decide (w / 4 % 2 = 1) := by
  obtain ⟨n, rfl⟩ := Int.eq_ofNat_of_zero_le h0
  have e1 : BitVec.ofInt (IntKind.bits .u64) ((n : Nat) : Int) = BitVec.ofNat 64 n := by simp [IntKind.bits]
  have e2 : BitVec.ofInt (IntKind.bits .u64) (4 : Int) = BitVec.ofNat 64 4 := rfl
  rw [e1, e2]
  have hn : n < 2 ^ 64 := by omega
  have e4 : (BitVec.ofNat 64 n &&& BitVec.ofNat 64 4).toNat = n / 4 % 2 * 4 := by
    rw [BitVec.toNat_and, BitVec.toNat_ofNat, BitVec.toNat_ofNat, Nat.mod_eq_of_lt hn]
    apply Nat.eq_of_testBit_eq
    intro k
    rw [Nat.testBit_and, show (4 % 2 ^ 64 : Nat) = 2 ^ 2 from rfl, Nat.testBit_two_pow]
    by_cases hk : 2 = k
    · subst hk
      rw [Nat.testBit_eq_decide_div_mod_eq]
      have : n / 4 % 2 = 0 ∨ n / 4 % 2 = 1 := by omega
      rcases this with e | e <;> rw [show n / 2 ^ 2 = n / 4 from rfl, e] <;> decide
    · have : n / 4 % 2 = 0 ∨ n / 4 % 2 = 1 := by omega
      rcases this with e | e <;> rw [e]
      · simp [hk]
      · rw [show 1 * 4 = 2 ^ 2 from rfl, Nat.testBit_two_pow]; simp [hk]
  show (IntKind.wrap .u64 ((BitVec.ofNat 64 n &&& BitVec.ofNat 64 4).toNat : Int) != 0) = _
  rw [e4, wrap_u64 (by omega) (by omega)]
  rw [Bool.eq_iff_iff]
  simp
  omega

theorem off_dec {w : Int} (h0 : 0 ≤ w) (h1 : w < 18446744073709551616) : Int.fdiv (IntKind.wrap .i64 (IntKind.wrap .i32 (IntKind.wrap .u32 w))) (2 ^ (min (Int.toNat 2) (IntKind.bits .i64))) = offP w := by
  show Int.fdiv _ 4 = _
  rw [Int.fdiv_eq_ediv_of_nonneg _ (by decide)]
  unfold offP
  simp only [IntKind.wrap, IntKind.signed, IntKind.bits]
  simp
  repeat' split
  all_goals omega

theorem c86 : Contract Try.prog cfg 86 spec86 := by
  refine make86 ?_
  intro w _ hp
  simp only [pre86] at hp
  refine vc86 _ _ ?_
  rintro y hy
  dsimp only at hy
  have h3 := and3 hp.1 hp.2
  rw [← hy] at h3
  (simp only [vcT, vcS])
  rw [h3, off_dec hp.1 hp.2, and4 hp.1 hp.2]
  have hs : ∀ (k : Nat), k ≤ 64 → Int.fdiv w (2 ^ (min (Int.toNat (k : Int)) (IntKind.bits .u64))) = w / 2 ^ k := fun k hk => shr_u64 (x := w) (n := (k : Int)) (by omega) (by omega)
  have s32 := hs 32 (by decide)
  have s48 := hs 48 (by decide)
  have s35 := hs 35 (by decide)
  have s3 := hs 3 (by decide)
  have m1 : ∀ x m : Int, 0 ≤ x → x < 18446744073709551616 → ∀ k : Nat, k ≤ 32 → m = 2 ^ k - 1 → IntKind.wrap .i64 (IntKind.wrap .u64 (BitVec.ofInt (IntKind.bits .u64) x &&& BitVec.ofInt (IntKind.bits .u64) m).toNat) = x % 2 ^ k := by
    intro x m hx0 hx1 k hk hm
    rw [and_mask hx0 hx1 k (by omega) hm]
    have hp' := pow2_pos k
    have hle : (2 : Int) ^ k ≤ 4294967296 := by
      have : (2 : Int) ^ k = ((2 ^ k : Nat) : Int) := by simp
      rw [this]
      have := Nat.pow_le_pow_right (n := 2) (show 0 < 2 by decide) hk
      omega
    have a1 := Int.emod_nonneg x (show (2 : Int) ^ k ≠ 0 by omega)
    have a2 := Int.emod_lt_of_pos x hp'
    exact wrap_i64 (by omega) (by omega)
  erw [s32, s48, s35, s3]
  rw [m1 _ 65535 (by omega) (by omega) 16 (by decide) rfl, m1 _ 7 (by omega) (by omega) 3 (by decide) rfl, m1 _ 536870911 (by omega) (by omega) 29 (by decide) rfl]
  rw [wrap_i64 (n := w / 2 ^ 48) (by omega) (by omega), wrap_i64 (n := w / 2 ^ 35) (by omega) (by omega), wrap_i64 (n := w / 2 ^ 32) (by omega) (by omega)]
  refine ⟨by decide, fun h => ?_, fun hz => ⟨fun h => ⟨by decide, by decide, ?_⟩, fun h0 => ⟨fun h => ⟨by decide, by decide, ?_⟩, fun h1 => ⟨fun h => ⟨by decide, by decide, ?_⟩, fun h2 => ?_⟩⟩⟩⟩
  all_goals
    refine ends_eq (r' := .agg (enc .ptr (decP w))) rfl ?_
  · rw [show decP w = pz by unfold decP; rw [if_pos h]]; (repeat' (first | exact trivial | exact rfl | refine And.intro ?_ ?_))
  · rw [show decP w = ⟨1, offP w, w / 4294967296 % 65536, w / 281474976710656, 0, 0, 0, false⟩ by unfold decP; rw [if_neg hz, if_pos h]]; (repeat' (first | exact trivial | exact rfl | refine And.intro ?_ ?_))
  · rw [show decP w = ⟨2, offP w, 0, 0, w / 4294967296 % 8, w / 34359738368, 0, false⟩ by unfold decP; rw [if_neg hz, if_neg h0, if_pos h]]; (repeat' (first | exact trivial | exact rfl | refine And.intro ?_ ?_))
  · rw [show decP w = ⟨3, w / 8 % 536870912, 0, 0, 0, 0, w / 4294967296, decide (w / 4 % 2 = 1)⟩ by unfold decP; rw [if_neg hz, if_neg h0, if_neg h1, if_pos h]]; (repeat' (first | exact trivial | exact rfl | refine And.intro ?_ ?_))
  · rw [show decP w = ⟨4, 0, 0, 0, 0, 0, 0, false⟩ by unfold decP; rw [if_neg hz, if_neg h0, if_neg h1, if_neg h2]]; (repeat' (first | exact trivial | exact rfl | refine And.intro ?_ ?_))

theorem c124 : Contract Try.prog cfg 124 spec124 := by
  refine make124 ?_
  intro n to _ _
  refine vc124 _ _ _ ?_
  (simp only [vcT, vcS])
  refine ends_bool rfl ?_
  rw [Bool.eq_iff_iff]
  (simp only [vcT, vcS])

end Go.AM.Ythokdjgpdonhgaa

namespace Go.AM.Ythokdjgpdonhgaa
open Go.AM Go.Proofs

def args60 : ArgL (List Int × Unit) := (.cons (aSl .u64) .nil)
def pre60 (a : List Int × Unit) : Prop := a.1.length ≤ 17592186044416
noncomputable def res60 (a : List Int × Unit) : V U := .c (.slice (U := U) .u64 a.1 .unk)
noncomputable def spec60 : Fs U := fs args60 (fun a => [pre60 a]) res60

noncomputable def know60 : List (FuncId × Fs U) := []
def lv60 : Lives U := fun i => match i with
  | 0 => ([(0, [])], [])
  | 1 => ([(0, []), (4, [])], [])
  | 2 => ([(2, [])], [])
  | 3 => ([(2, [])], [])
  | _ => ([], [])
noncomputable abbrev A60 (p : List Nat) := awp cfg (know know60) (drawOk cfg (know know60)) Try.f60.ntmps lv60 (cd Try.f60 p)
theorem vc60 (l : List Int) (Q : AExit → LSt U → Prop) (h : ((((l = []) → (Q .ret (⟨[(2, .c (.nils))], [], []⟩ : LSt U))) ∧ ((True) → ((([] : List Int).length + l.length) * 8 ≤ 140737488355328) ∧ (Q .ret (⟨[(2, .c (.slice (U := U) .u64 (([] : List Int) ++ l) (.own (.e 2 0))))], [], []⟩ : LSt U)))))) :
    A60 [] (⟨[(0, .c (.slice (U := U) .u64 l .unk))], [], []⟩ : LSt U) Q :=
  Eq.mpr (by kernel_rfl) h
def Body60 (l : List Int)  : Prop := awp cfg (know (know60)) (drawOk cfg (know (know60))) Try.f60.ntmps lv60 (cd Try.f60 []) (entry (args60.can (l, ())) []) (EndsQ cfg Try.f60.ntmps Try.f60.results.toList (res60 (l, ())) [])
theorem make60 (hb : ∀ (l : List Int) (_ : Unit), pre60 (l, ()) → Body60 l) : Contract Try.prog cfg 60 spec60 :=
  contract_flat (l := []) cfgOk rfl (trivial) lv60 Try.func60 rfl rfl 1 (fun _ => rfl) (by decide) (fun ⟨l, _⟩ => hb l ())

end Go.AM.Ythokdjgpdonhgaa

namespace Go.AM.Ythokdjgpdonhgaa
open Go.AM Go.Proofs

theorem c60 : Contract Try.prog cfg 60 spec60 := by
  refine make60 ?_
  intro l _ hp
  simp only [pre60] at hp
  refine vc60 _ _ ?_
  (simp only [vcT, vcS])
  refine ⟨fun h => ?_, by simp; omega, ?_⟩
  · subst h; (repeat' (first | exact trivial | exact rfl | refine And.intro ?_ ?_))
  · rw [List.nil_append]; (repeat' (first | exact trivial | exact rfl | refine And.intro ?_ ?_))

end Go.AM.Ythokdjgpdonhgaa

namespace Go.AM.Ythokdjgpdonhgaa
open Go.AM Go.Proofs

def args37 : ArgL (List Int × List Int × Unit) := (.cons (aSl .u64) (.cons (aSl .u64) .nil))
def pre37 (a : List Int × List Int × Unit) : Prop := a.1.length ≤ 17592186044416
noncomputable def res37 (a : List Int × List Int × Unit) : V U := .c (.bool (decide (a.1 = a.2.1)))
noncomputable def spec37 : Fs U := fs args37 (fun a => [pre37 a]) res37

noncomputable def know37 : List (FuncId × Fs U) := []
def lv37 : Lives U := fun i => match i with
  | 0 => ([(0, []), (1, [])], [])
  | 1 => ([(0, []), (1, []), (10, [])], [])
  | 2 => ([(4, [])], [])
  | 3 => ([(0, []), (1, []), (5, [])], [])
  | 4 => ([(0, []), (1, []), (5, []), (14, [])], [])
  | 5 => ([(0, []), (1, []), (5, [])], [])
  | 6 => ([(0, []), (1, []), (5, []), (25, [])], [])
  | 7 => ([(4, [])], [])
  | 8 => ([(4, [])], [])
  | _ => ([], [])
noncomputable def head37_0 (a : List Int) (b : List Int) (x5 : Int) : LSt U := (⟨[(0, .c (.slice (U := U) .u64 a .unk)), (1, .c (.slice (U := U) .u64 b .unk)), (5, .c (.int .i64 x5))], [], []⟩ : LSt U)
noncomputable abbrev A37 (p : List Nat) := awp cfg (know know37) (drawOk cfg (know know37)) Try.f37.ntmps lv37 (cd Try.f37 p)
noncomputable abbrev S37 (p : List Nat) := seqK cfg (know know37) (drawOk cfg (know know37)) Try.f37.ntmps lv37 (cd Try.f37 p)
theorem vc37 (a : List Int) (b : List Int) (Q : AExit → LSt U → Prop) (h : ((((((a.length : Int) : Int) != (b.length : Int)) = true → (Q .ret (⟨[(4, .c (.bool false))], [], []⟩ : LSt U))) ∧ ((((a.length : Int) : Int) != (b.length : Int)) = false → (LoopWp (A37 [1, 1, 0, 1, 0, 0]) (head37_0 a b 0) (AExit.inBlock 0 (S37 [1, 1, 1] Q))))))) :
    A37 [] (⟨[(0, .c (.slice (U := U) .u64 a .unk)), (1, .c (.slice (U := U) .u64 b .unk))], [], []⟩ : LSt U) Q :=
  Eq.mpr (by kernel_rfl) h
theorem vc37_l0 (a : List Int) (b : List Int) (x5 : Int) (N0 : LSt U → Prop) (Q : AExit → LSt U → Prop) (h : (((decide ((x5 : Int) < (a.length : Int))) = true → ((0 : Int) ≤ x5 ∧ x5 < (a.length : Int)) ∧ ((0 : Int) ≤ x5 ∧ x5 < (b.length : Int)) ∧ (((((List.getD a (Int.toNat x5) (0 : Int)) : Int) != (List.getD b (Int.toNat x5) (0 : Int))) = true → (Q .ret (⟨[(4, .c (.bool false))], [], []⟩ : LSt U))) ∧ ((((List.getD a (Int.toNat x5) (0 : Int)) : Int) != (List.getD b (Int.toNat x5) (0 : Int))) = false → (InR ((x5 : Int) + 1)) ∧ (N0 (head37_0 a b ((x5 : Int) + 1)))))) ∧ ((decide ((x5 : Int) < (a.length : Int))) = false → (Q .ret (⟨[(4, .c (.bool true))], [], []⟩ : LSt U))))) :
    A37 [1, 1, 0, 1, 0, 0] (head37_0 a b x5) (AExit.then N0 (AExit.inBlock 0 (S37 [1, 1, 1] Q))) :=
  Eq.mpr (by kernel_rfl) h
def Body37 (a : List Int) (b : List Int)  : Prop := awp cfg (know (know37)) (drawOk cfg (know (know37))) Try.f37.ntmps lv37 (cd Try.f37 []) (entry (args37.can (a, b, ())) []) (EndsQ cfg Try.f37.ntmps Try.f37.results.toList (res37 (a, b, ())) [])
theorem make37 (hb : ∀ (a : List Int) (b : List Int) (_ : Unit), pre37 (a, b, ()) → Body37 a b) : Contract Try.prog cfg 37 spec37 :=
  contract_flat (l := []) cfgOk rfl (trivial) lv37 Try.func37 rfl rfl 2 (fun _ => rfl) (by decide) (fun ⟨a, b, _⟩ => hb a b ())

end Go.AM.Ythokdjgpdonhgaa

namespace Go.AM.Ythokdjgpdonhgaa
open Go.AM Go.Proofs

theorem eq_of_getD {α : Type} {a b : List α} (d : α) (hl : a.length = b.length) (h : ∀ j : Nat, j < a.length → a.getD j d = b.getD j d) : a = b := by
  refine List.ext_getElem hl fun j h1 h2 => ?_
  have := h j h1
  rwa [List.getD_eq_getElem?_getD, List.getD_eq_getElem?_getD, List.getElem?_eq_getElem h1, List.getElem?_eq_getElem h2] at this

theorem c37 : Contract Try.prog cfg 37 spec37 := by
  refine make37 ?_
  intro a b _ hp
  simp only [pre37] at hp
  refine vc37 _ _ _ ?_
  (simp only [vcT, vcS])
  refine ⟨fun h => ends_bool rfl (decide_eq_false fun e => h (by rw [show a = b from e])).symm, fun h => ?_⟩
  refine loop_rule (ι := Int) (fun i => head37_0 a b i) (fun i => 0 ≤ i ∧ i ≤ a.length ∧ ∀ j : Nat, j < i.toNat → a.getD j 0 = b.getD j 0) (fun i => (a.length - i).toNat) 0 rfl ⟨by simp, by omega, fun j hj => by simp at hj⟩ ?_
  rintro i ⟨h1, h2, h3⟩
  refine vc37_l0 _ _ _ _ _ ?_
  (simp only [vcT, vcS])
  refine ⟨fun hi => ⟨by omega, by omega, fun hn => ends_bool rfl ?_, fun he => ⟨by ((unfold InR; omega)), i + 1, rfl, ⟨by omega, by omega, fun j hj => ?_⟩, by omega⟩⟩, fun hi => ends_bool rfl ?_⟩
  · exact (decide_eq_false fun e => hn (by rw [show a = b from e])).symm
  · by_cases e : j < i.toNat
    · exact h3 j e
    · rw [show j = i.toNat by omega]; exact he
  · exact (decide_eq_true (eq_of_getD 0 (by omega) fun j hj => h3 j (by omega))).symm

end Go.AM.Ythokdjgpdonhgaa

namespace Go.AM.Ythokdjgpdonhgaa
open Go.AM Go.Proofs Go.Proofs.Ythokdjgpdonhgaa Go.ChangeShapes Go.WideShapes Go.RowKit

theorem own : ownKnob Try.prog.godebug = none := by kernel_rfl
theorem laidOut : laidOutB Try.prog = true := by kernel_rfl
theorem treeTypes : TreeTypes cfg := ⟨rfl, rfl, ⟨_, rfl⟩, ⟨_, rfl⟩, ⟨_, rfl, rfl⟩, ⟨_, _, rfl, rfl⟩, ⟨_, _, rfl, rfl, rfl⟩, ⟨_, _, rfl, rfl, rfl⟩⟩
theorem argTree {H : Type} {henc : TypeId × Value → H} : ArgR henc Try.prog cfg (aEl .tree) 53 inT := argR_el cfgOk rfl ⟨_, _, rfl⟩ (fun _ n cs h => rd_tree cfgOk treeTypes n cs h)
end Go.AM.Ythokdjgpdonhgaa

namespace Go.AM.Ythokdjgpdonhgaa
open Go.AM Go.Proofs

def roomW (c n : Int) : Int := if wd c < 1 ∨ n < 0 ∨ 1099511627776 < n then 0 else (n * wd c + 63) / 64
def putS (c : Int) (l : List Int) (i n : Int) : List Int :=
  if wd c < 1 then l else l.set (i * wd c / 64).toNat (l.getD (i * wd c / 64).toNat 0 + n * 2 ^ (i * wd c % 64).toNat)
def putGo (c : Int) : List Int → Int → List Int → List Int
  | l, _, [] => l
  | l, i, n :: r => putGo c (putS c l i n) (i + 1) r
def putW (c : Int) (ns : List Int) : List Int := putGo c (List.replicate (roomW c ns.length).toNat 0) 0 ns
def fitsA (c : Int) (ns : List Int) : Bool := decide (0 ≤ wd c) && ns.all (fits c)
def putR (c : Int) (ns : List Int) : List Int := if fitsA c ns then putW c ns else []

theorem putGo_append (c : Int) : ∀ (a b l : List Int) (i : Int), putGo c l i (a ++ b) = putGo c (putGo c l i a) (i + a.length) b
  | [], b, l, i => by simp [putGo]
  | n :: r, b, l, i => by
    simp only [List.cons_append, putGo]
    rw [putGo_append c r b _ (i + 1)]
    congr 1
    simp
    omega

theorem putS_len (c : Int) (l : List Int) (i n : Int) : (putS c l i n).length = l.length := by
  unfold putS
  split <;> simp

theorem putGo_len (c : Int) : ∀ (a l : List Int) (i : Int), (putGo c l i a).length = l.length
  | [], l, i => rfl
  | n :: r, l, i => by rw [putGo, putGo_len c r, putS_len]

def putN (c : Int) (ns : List Int) (i : Int) : List Int := putGo c (List.replicate (roomW c ns.length).toNat 0) 0 (ns.take i.toNat)

theorem putN_zero (c : Int) (ns : List Int) : putN c ns 0 = List.replicate (roomW c ns.length).toNat 0 := by simp [putN, putGo]
theorem putN_succ (c : Int) (ns : List Int) {i : Int} (h0 : 0 ≤ i) (h : i < ns.length) : putN c ns (i + 1) = putS c (putN c ns i) i (ns.getD i.toNat 0) := by
  unfold putN
  have e : ns.take (i + 1).toNat = ns.take i.toNat ++ [ns.getD i.toNat 0] := by
    rw [show (i + 1).toNat = i.toNat + 1 by omega, List.getD_eq_getElem?_getD, List.getElem?_eq_getElem (show i.toNat < ns.length by omega), Option.getD_some]
    exact (List.take_append_getElem (by omega)).symm
  rw [e, putGo_append]
  simp only [putGo, List.length_take]
  congr 1
  omega
theorem putN_all (c : Int) (ns : List Int) : putN c ns ns.length = putW c ns := by simp [putN, putW]
theorem putN_len (c : Int) (ns : List Int) (i : Int) : (putN c ns i).length = (roomW c ns.length).toNat := by simp [putN, putGo_len]

theorem room_at {c n i : Int} (hw : 1 ≤ wd c) (h0 : 0 ≤ i) (h1 : i < n) (h2 : n ≤ 1099511627776) : i * wd c / 64 < roomW c n ∧ 0 ≤ i * wd c / 64 := by
  unfold roomW
  rw [if_neg (by omega)]
  rcases wd_div c with e | e | e | e | e | e
  · omega
  all_goals (rw [e]; omega)

def usedB (c i : Int) (q : Nat) : Nat := min 64 (i * wd c - 64 * q).toNat

def PutI (c : Int) (l : List Int) (i : Int) : Prop := ∀ q : Nat, 0 ≤ l.getD q 0 ∧ l.getD q 0 < 2 ^ usedB c i q

theorem used_at {c i : Int} (hw : 1 ≤ wd c) (h0 : 0 ≤ i) (h2 : i ≤ 1099511627776) : usedB c i (i * wd c / 64).toNat = (i * wd c % 64).toNat ∧ usedB c (i + 1) (i * wd c / 64).toNat = (i * wd c % 64).toNat + (wd c).toNat := by
  unfold usedB
  rcases wd_div c with e | e | e | e | e | e
  · omega
  all_goals (rw [e]; constructor <;> omega)

theorem used_mono (c i : Int) (q : Nat) (hw : 1 ≤ wd c) : usedB c i q ≤ usedB c (i + 1) q := by
  unfold usedB
  have : i * wd c ≤ (i + 1) * wd c := by rw [Int.add_mul]; omega
  omega

theorem pow_le_pow {a b : Nat} (h : a ≤ b) : (2 : Int) ^ a ≤ 2 ^ b := by
  have e : ∀ k : Nat, (2 : Int) ^ k = ((2 ^ k : Nat) : Int) := fun k => by simp
  rw [e, e]
  exact Int.ofNat_le.2 (Nat.pow_le_pow_right (by decide) h)

theorem put_num {x n : Int} {a w : Nat} (hx : 0 ≤ x) (hx' : x < 2 ^ a) (hn : 0 ≤ n) (hn' : n < 2 ^ w) : 0 ≤ x + n * 2 ^ a ∧ x + n * 2 ^ a < 2 ^ (a + w) ∧ 0 ≤ n * 2 ^ a := by
  have hp := pow2_pos a
  have h1 : 0 ≤ n * 2 ^ a := Int.mul_nonneg hn (Int.le_of_lt hp)
  have h2 : (n + 1) * 2 ^ a ≤ 2 ^ w * 2 ^ a := Int.mul_le_mul_of_nonneg_right (by omega) (Int.le_of_lt hp)
  rw [Int.add_mul, Int.one_mul] at h2
  rw [Int.pow_add, Int.mul_comm (2 ^ a)]
  omega

theorem fits_lt {c n : Int} (h : fits c n = true) : 0 ≤ wd c ∧ n < 2 ^ (wd c).toNat := by
  unfold fits at h
  exact of_decide_eq_true h

theorem putI_step {c : Int} {l : List Int} {i n : Int} (hw : 1 ≤ wd c) (h0 : 0 ≤ i) (h2 : i ≤ 1099511627776) (hn : 0 ≤ n) (hf : fits c n = true) (h : PutI c l i) : PutI c (putS c l i n) (i + 1) := by
  intro q
  unfold putS
  rw [if_neg (by omega)]
  have hu := used_at hw h0 h2
  rw [List.getD_eq_getElem?_getD, List.getElem?_set]
  by_cases hq : (i * wd c / 64).toNat = q
  · subst hq
    rw [if_pos rfl]
    have hq := h (i * wd c / 64).toNat
    rw [hu.1] at hq
    have := put_num hq.1 hq.2 hn (fits_lt hf).2
    by_cases hl : (i * wd c / 64).toNat < l.length
    · rw [if_pos hl, hu.2]
      simp only [Option.getD_some]
      omega
    · rw [if_neg hl]
      simp only [Option.getD_none]
      exact ⟨by decide, pow2_pos _⟩
  · rw [if_neg hq, ← List.getD_eq_getElem?_getD]
    have hm := pow_le_pow (used_mono c i q hw)
    have := h q
    omega

theorem putI_zero (c : Int) (k : Nat) : PutI c (List.replicate k 0) 0 := by
  intro q
  have : (List.replicate k (0 : Int)).getD q 0 = 0 := by
    rw [List.getD_eq_getElem?_getD, List.getElem?_replicate]
    split <;> rfl
  rw [this]
  exact ⟨by decide, pow2_pos _⟩

theorem fitsA_get {c : Int} {ns : List Int} (h : fitsA c ns = true) {i : Nat} (hi : i < ns.length) : fits c (ns.getD i 0) = true := by
  unfold fitsA at h
  rw [Bool.and_eq_true, List.all_eq_true] at h
  rw [List.getD_eq_getElem?_getD, List.getElem?_eq_getElem hi]
  exact h.2 _ (List.getElem_mem hi)

theorem putN_inv {c : Int} {ns : List Int} (hw : 1 ≤ wd c) (hn : okW ns) (hl : (ns.length : Int) ≤ 1099511627776) : ∀ (k : Nat), k ≤ ns.length → (∀ j, j < k → fits c (ns.getD j 0) = true) → PutI c (putN c ns k) k := by
  intro k
  induction k with
  | zero => intro _ _; rw [show ((0 : Nat) : Int) = 0 from rfl, putN_zero]; exact putI_zero c _
  | succ k ih =>
    intro hk hf
    rw [show ((k + 1 : Nat) : Int) = (k : Int) + 1 by omega, putN_succ c ns (by omega) (by omega)]
    have := hf k (by omega)
    exact putI_step hw (by omega) (by omega) (getD_word hn _).1 (by simpa using this) (ih (by omega) fun j hj => hf j (by omega))

theorem get_stay {x m : Int} {a w s : Nat} (h : a + w ≤ s) : (x + m * 2 ^ s) / 2 ^ a % 2 ^ w = x / 2 ^ a % 2 ^ w := by
  have hp := pow2_pos a
  obtain ⟨t, rfl⟩ := Nat.exists_eq_add_of_le h
  rw [Int.pow_add, Int.pow_add, show m * (2 ^ a * 2 ^ w * 2 ^ t) = 2 ^ a * (2 ^ w * (2 ^ t * m)) by simp only [Int.mul_comm, Int.mul_left_comm, Int.mul_assoc]]
  rw [Int.add_mul_ediv_left _ _ (by omega), Int.add_mul_emod_self_left]

theorem get_new {x n : Int} {a w : Nat} (hx : 0 ≤ x) (hx' : x < 2 ^ a) (hn : 0 ≤ n) (hn' : n < 2 ^ w) : (x + n * 2 ^ a) / 2 ^ a % 2 ^ w = n := by
  rw [Int.add_mul_ediv_right _ _ (by have := pow2_pos a; omega), Int.ediv_eq_zero_of_lt hx hx', Int.zero_add, Int.emod_eq_of_lt hn hn']

theorem apart_at {c i j : Int} (hw : 1 ≤ wd c) (h0 : 0 ≤ j) (h1 : j < i) (h2 : i ≤ 1099511627776) (h : i * wd c / 64 = j * wd c / 64) : (j * wd c % 64).toNat + (wd c).toNat ≤ (i * wd c % 64).toNat := by
  rcases wd_div c with e | e | e | e | e | e
  · omega
  all_goals (rw [e] at h ⊢; omega)

theorem getW_put {c : Int} {ns : List Int} (hw : 1 ≤ wd c) (hn : okW ns) (hl : (ns.length : Int) ≤ 1099511627776) (hf : fitsA c ns = true) {j : Int} (h0 : 0 ≤ j) :
    ∀ (k : Nat), k ≤ ns.length → j < k → getW (putN c ns k) c j = ns.getD j.toNat 0 := by
  intro k
  induction k with
  | zero => intro _ h; omega
  | succ k ih =>
    intro hk hj
    have hinv := putN_inv hw hn hl k (by omega) fun j hj => fitsA_get hf (by omega)
    obtain ⟨r1, r2⟩ := room_at hw (i := k) (n := ns.length) (by omega) (by omega) hl
    obtain ⟨s1, s2⟩ := room_at hw (i := j) (n := ns.length) (by omega) (by omega) hl
    rw [getW_eq hw h0 (by omega), show ((k + 1 : Nat) : Int) = (k : Int) + 1 by omega, putN_succ c ns (by omega) (by omega)]
    unfold wordW putS
    rw [if_neg (by omega : ¬ wd c < 1), if_neg (by rw [List.length_set, putN_len]; omega), List.getD_eq_getElem?_getD, List.getElem?_set]
    by_cases hq : ((k : Int) * wd c / 64).toNat = (j * wd c / 64).toNat
    · rw [if_pos hq, if_pos (by rw [putN_len]; omega), Option.getD_some]
      by_cases hjk : j = k
      · subst hjk
        have hu := used_at hw (i := (k : Int)) (by omega) (by omega)
        have hI := hinv ((k : Int) * wd c / 64).toNat
        rw [hu.1] at hI
        exact get_new hI.1 hI.2 (getD_word hn _).1 (fits_lt (fitsA_get hf (by omega))).2
      · have hlt : j < k := by omega
        rw [get_stay (apart_at hw h0 hlt (by omega) (by omega)), ← ih (by omega) hlt, getW_eq hw h0 (by omega)]
        unfold wordW
        rw [if_neg (by rw [putN_len]; omega), hq]
    · rw [if_neg hq, ← List.getD_eq_getElem?_getD]
      have hlt : j < k := by
        rcases Int.lt_or_le j k with h | h
        · exact h
        · have : j = k := by omega
          subst this; exact absurd rfl hq
      rw [← ih (by omega) hlt, getW_eq hw h0 (by omega)]
      unfold wordW
      rw [if_neg (by rw [putN_len]; omega)]

theorem getW_putW {c : Int} {ns : List Int} (hw : 1 ≤ wd c) (hn : okW ns) (hl : (ns.length : Int) ≤ 1099511627776) (hf : fitsA c ns = true) {j : Int} (h0 : 0 ≤ j) (h1 : j < ns.length) : getW (putW c ns) c j = ns.getD j.toNat 0 := by
  rw [← putN_all]
  exact getW_put hw hn hl hf h0 ns.length (Nat.le_refl _) h1

theorem putW_len (c : Int) (ns : List Int) : (putW c ns).length = (roomW c ns.length).toNat := by rw [← putN_all, putN_len]
end Go.AM.Ythokdjgpdonhgaa

namespace Go.AM

def ownX (x : XRef) : Int := if x.kind = 1 then 1 + x.data + x.ptrs else if x.kind = 9 then 1 + x.count * (1 + x.data + x.ptrs) else 1 + x.count

def loopM (f : Int → Int → Tree × Int × Int) : Nat → Int → Int → List Tree → List Tree × Int × Int
  | 0, _, left, acc => (acc, left, 0)
  | n + 1, i, left, acc => if (f i left).2.2 = 0 then loopM f n (i + 1) (f i left).2.1 (acc ++ [(f i left).1]) else (acc, (f i left).2)

def kidsM (l : List (List Int)) (m : XRef → Int → Tree × Int × Int) (x : XRef) (left : Int) : Tree × Int × Int :=
  (⟨1, wordsX l x, (loopM (fun j left => if (kidX l x j).2 = 0 then m (kidX l x j).1 left else (Tree.nil, left, (kidX l x j).2)) x.ptrs.toNat 0 left []).1⟩,
    (loopM (fun j left => if (kidX l x j).2 = 0 then m (kidX l x j).1 left else (Tree.nil, left, (kidX l x j).2)) x.ptrs.toNat 0 left []).2)

def kidM (l : List (List Int)) (m m' : XRef → Int → Tree × Int × Int) (x : XRef) (i left : Int) : Tree × Int × Int :=
  if (kidX l x i).2 = 0 then
    if x.kind = 9 then kidsM l m' (kidX l x i).1 left
    else if x.kind = 1 ∨ x.kind = 8 then m (kidX l x i).1 left
    else (⟨(kidX l x i).1.kind, wordsX l (kidX l x i).1, []⟩, left, 0)
  else (Tree.nil, left, (kidX l x i).2)

def stepM (l : List (List Int)) (d : Nat) (m m' : XRef → Int → Tree × Int × Int) (x : XRef) (left : Int) : Tree × Int × Int :=
  if x.kind = 0 then (⟨0, wordsX l x, []⟩, left, 0)
  else if d = 0 ∨ (x.kind = 9 ∧ 0 < x.count ∧ d < 2) ∨ left < ownX x then (⟨x.kind, wordsX l x, []⟩, left, 3)
  else (⟨x.kind, wordsX l x, (loopM (kidM l m m' x) (kidsX x).toNat 0 (left - ownX x) []).1⟩, (loopM (kidM l m m' x) (kidsX x).toNat 0 (left - ownX x) []).2)

def mean (l : List (List Int)) : Nat → XRef → Int → Tree × Int × Int
  | 0 => stepM l 0 (fun _ left => (Tree.nil, left, 3)) (fun _ left => (Tree.nil, left, 3))
  | 1 => stepM l 1 (mean l 0) (fun _ left => (Tree.nil, left, 3))
  | d + 2 => stepM l (d + 2) (mean l (d + 1)) (mean l d)

theorem mean_eq {l : List (List Int)} {d : Nat} {x : XRef} {left : Int} (h : 1 ≤ d) : mean l d x left = stepM l d (mean l (d - 1)) (mean l (d - 2)) x left := by
  match d, h with
  | 1, _ =>
    show stepM l 1 (mean l 0) _ x left = stepM l 1 (mean l 0) (mean l 0) x left
    unfold stepM
    split
    · rfl
    · split
      · rfl
      · rename_i h0 h1
        have h9 : x.kind = 9 → x.count ≤ 0 := fun e => by
          by_cases hc : 0 < x.count
          · exact absurd (.inr (.inl ⟨e, hc, by decide⟩)) h1
          · omega
        have : ∀ a b, kidM l (mean l 0) a x = kidM l (mean l 0) b x ∨ (kidsX x).toNat = 0 := fun a b => by
          by_cases e : x.kind = 9
          · right
            have := h9 e
            unfold kidsX
            rw [if_neg (by omega)]
            omega
          · left
            funext i left
            unfold kidM
            rw [if_neg e, if_neg e]
        rcases this (fun _ left => (Tree.nil, left, 3)) (mean l 0) with e | e
        · rw [e]
        · rw [e]; rfl
  | d + 2, _ => rfl

theorem mean_zero {l : List (List Int)} {x : XRef} {left : Int} : mean l 0 x left = if x.kind = 0 then (⟨0, wordsX l x, []⟩, left, 0) else (⟨x.kind, wordsX l x, []⟩, left, 3) := by
  show stepM l 0 _ _ x left = _
  unfold stepM
  split
  · rfl
  · rw [if_pos (.inl rfl)]

end Go.AM

namespace Go.AM.Ythokdjgpdonhgaa
open Go.AM Go.Proofs

def args107 : ArgL (Int × Unit) := (.cons (aInt .i64) .nil)
def pre107 (a : Int × Unit) : Prop := True
noncomputable def res107 (a : Int × Unit) : V U := .c (.bool (decide (2 ≤ a.1 ∧ a.1 ≤ 7)))
noncomputable def spec107 : Fs U := fs args107 (fun a => [pre107 a]) res107

noncomputable def know107 : List (FuncId × Fs U) := []
def lv107 : Lives U := fun i => match i with
  | 0 => ([(0, [])], [])
  | 1 => ([(2, [])], [])
  | _ => ([], [])
noncomputable abbrev A107 (p : List Nat) := awp cfg (know know107) (drawOk cfg (know know107)) Try.f107.ntmps lv107 (cd Try.f107 p)
theorem vc107 (k : Int) (Q : AExit → LSt U → Prop) (h : ((Tr ((decide ((2 : Int) ≤ k)) = true)) ∧ ((Tr ((decide ((2 : Int) ≤ k)) = true))) ∧ (Q .ret (⟨[(2, .c (.bool (bif (decide ((2 : Int) ≤ k)) then (decide ((k : Int) ≤ 7)) else false)))], [], []⟩ : LSt U)))) :
    A107 [] (⟨[(0, .c (.int .i64 k))], [], []⟩ : LSt U) Q :=
  Eq.mpr (by kernel_rfl) h
def Body107 (k : Int)  : Prop := awp cfg (know (know107)) (drawOk cfg (know (know107))) Try.f107.ntmps lv107 (cd Try.f107 []) (entry (args107.can (k, ())) []) (EndsQ cfg Try.f107.ntmps Try.f107.results.toList (res107 (k, ())) [])
theorem make107 (hb : ∀ (k : Int) (_ : Unit), pre107 (k, ()) → Body107 k) : Contract Try.prog cfg 107 spec107 :=
  contract_flat (l := []) cfgOk rfl (trivial) lv107 Try.func107 rfl rfl 1 (fun _ => rfl) (by decide) (fun ⟨k, _⟩ => hb k ())

end Go.AM.Ythokdjgpdonhgaa

namespace Go.AM.Ythokdjgpdonhgaa
open Go.AM Go.Proofs

theorem c107 : Contract Try.prog cfg 107 spec107 := by
  refine make107 ?_
  intro k _ _
  refine vc107 _ _ ?_
  (simp only [vcT, vcS])
  refine ends_bool rfl ?_
  rw [Bool.eq_iff_iff]
  (simp only [vcT, vcS])

end Go.AM.Ythokdjgpdonhgaa
