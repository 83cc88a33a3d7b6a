import Derived.Test.YtcljdbpmjdgooaaEmZ
import Derived.Test.YtcljdbpmjdgooaaChecked
import Derived.Test.YtcljdbpmjdgooaaRows
import Derived.Test.YtcljdbpmjdgooaaEmX
import Derived.ProofKit
import Derived.Test.YtcljdbpmjdgooaaEBD07
import Derived.Test.YtcljdbpmjdgooaaEmY
set_option linter.unusedSimpArgs false
set_option linter.unusedVariables false
namespace Go.AM.Ytcljdbpmjdgooaa
open Go.AM Go.Proofs
def el : Ty → TypeId
  | .u64 => 50
  | .u8 => 5
  | .int => 3
  | .words => 22
  | .tree => 25
  | .ptr => 89
  | .loc => 124
  | .arena => 71
  | .ref => 81
  | .limits => 45
  | .spot => 55
def tb : Tables U :=
  { el := el
    sl := [(22, .u64), (23, .tree), (31, .words)]
    var := [(2, false, [.int .i64 0]),
      (3, false, [.int .i64 0]),
      (4, false, [.bool false]),
      (5, false, [.int .u8 0]),
      (6, false, [.int .u8 0]),
      (7, true, [.int .i64 0, .int .i64 0, .bool false, .int .u8 0]),
      (8, true, [.int .i64 0, .int .i64 0, .bool false, .int .u8 0]),
      (12, false, [.int .u64 0]),
      (15, false, [.nilp]),
      (16, false, [.nilp]),
      (17, false, [.nilp]),
      (18, true, [.nilp]),
      (19, true, [.nilp]),
      (21, false, [.int .i32 0]),
      (22, false, [.nils]),
      (23, false, [.nils]),
      (24, true, [.int .i64 0, .nils, .nils]),
      (25, true, [.int .i64 0, .nils, .nils]),
      (28, false, [.nilp]),
      (31, false, [.nils]),
      (40, false, [.int .i64 0]),
      (44, true, [.int .i64 0, .int .i64 0, .int .i64 0, .int .i64 0]),
      (45, true, [.int .i64 0, .int .i64 0, .int .i64 0, .int .i64 0]),
      (50, false, [.int .u64 0]),
      (52, true, [.nilp]),
      (53, true, [.nilp]),
      (54, true, [.int .i64 0, .int .i64 0]),
      (55, true, [.int .i64 0, .int .i64 0]),
      (59, false, [.nilp]),
      (60, false, [.nilp]),
      (62, true, [.nilp, .bool false]),
      (63, true, [.nilp, .bool false]),
      (67, true, [.nils, .int .i64 0, .int .i64 0, .int .i64 0]),
      (68, true, [.nils, .int .i64 0, .int .i64 0, .int .i64 0]),
      (70, true, [.nils, .int .i64 0, .int .i64 0, .int .i64 0]),
      (71, true, [.nils, .int .i64 0, .int .i64 0, .int .i64 0]),
      (72, false, [.nilp]),
      (73, true, [.nils]),
      (74, true, [.nils]),
      (80, true, [.nilp, .int .i64 0, .int .i64 0, .int .i64 0, .int .i64 0, .int .i64 0, .int .i64 0, .int .u64 0]),
      (81, true, [.nilp, .int .i64 0, .int .i64 0, .int .i64 0, .int .i64 0, .int .i64 0, .int .i64 0, .int .u64 0]),
      (88, true, [.int .i64 0, .int .i64 0, .int .i64 0, .int .i64 0, .int .i64 0, .int .i64 0, .int .i64 0, .bool false]),
      (89, true, [.int .i64 0, .int .i64 0, .int .i64 0, .int .i64 0, .int .i64 0, .int .i64 0, .int .i64 0, .bool false]),
      (102, false, [.nilp]),
      (103, true, [.int .i64 0, .int .i64 0]),
      (104, true, [.int .i64 0, .int .i64 0]),
      (123, true, [.int .i64 0, .int .i64 0, .int .i64 0, .int .i64 0, .int .i64 0, .int .i64 0, .int .i64 0, .bool false, .int .i64 0, .int .i64 0]),
      (124, true, [.int .i64 0, .int .i64 0, .int .i64 0, .int .i64 0, .int .i64 0, .int .i64 0, .int .i64 0, .bool false, .int .i64 0, .int .i64 0]),
      (129, false, [.int .u64 0]),
      (132, true, [.int .i64 0, .int .i64 0, .int .i64 0, .int .i64 0, .int .i64 0, .int .i64 0]),
      (136, false, [.int .u32 0]),
      (140, true, [.int .i64 0, .int .i64 0, .int .i64 0, .int .i64 0, .int .i64 0, .int .i64 0, .int .i64 0]),
      (147, false, [.int .u8 0]),
      (148, false, [.int .u8 0]),
      (150, false, [.nilp]),
      (151, false, [.int .i32 0]),
      (152, false, [.int .i32 0])]
    fld := [(7, 0, 0, 2), (7, 1, 1, 3), (7, 2, 2, 4), (7, 3, 3, 6), (8, 0, 0, 2), (8, 1, 1, 3), (8, 2, 2, 4), (8, 3, 3, 6), (18, 0, 0, 17), (19, 0, 0, 17), (24, 0, 0, 3), (24, 1, 1, 22), (24, 2, 2, 23), (25, 0, 0, 3), (25, 1, 1, 22), (25, 2, 2, 23), (44, 0, 0, 3), (44, 1, 1, 3), (44, 2, 2, 3), (44, 3, 3, 3), (45, 0, 0, 3), (45, 1, 1, 3), (45, 2, 2, 3), (45, 3, 3, 3), (52, 0, 0, 28), (53, 0, 0, 28), (54, 0, 0, 3), (54, 1, 1, 3), (55, 0, 0, 3), (55, 1, 1, 3), (62, 0, 0, 60), (62, 1, 1, 4), (63, 0, 0, 60), (63, 1, 1, 4), (67, 0, 0, 31), (67, 1, 1, 3), (67, 2, 2, 3), (67, 3, 3, 3), (68, 0, 0, 31), (68, 1, 1, 3), (68, 2, 2, 3), (68, 3, 3, 3), (70, 0, 0, 31), (70, 1, 1, 3), (70, 2, 2, 3), (70, 3, 3, 3), (71, 0, 0, 31), (71, 1, 1, 3), (71, 2, 2, 3), (71, 3, 3, 3), (73, 0, 0, 22), (74, 0, 0, 22), (80, 0, 0, 28), (80, 1, 1, 3), (80, 2, 2, 3), (80, 3, 3, 3), (80, 4, 4, 3), (80, 5, 5, 3), (80, 6, 6, 3), (80, 7, 7, 50), (81, 0, 0, 28), (81, 1, 1, 3), (81, 2, 2, 3), (81, 3, 3, 3), (81, 4, 4, 3), (81, 5, 5, 3), (81, 6, 6, 3), (81, 7, 7, 50), (88, 0, 0, 3), (88, 1, 1, 3), (88, 2, 2, 3), (88, 3, 3, 3), (88, 4, 4, 3), (88, 5, 5, 3), (88, 6, 6, 3), (88, 7, 7, 4), (89, 0, 0, 3), (89, 1, 1, 3), (89, 2, 2, 3), (89, 3, 3, 3), (89, 4, 4, 3), (89, 5, 5, 3), (89, 6, 6, 3), (89, 7, 7, 4), (103, 0, 0, 3), (103, 1, 1, 3), (104, 0, 0, 3), (104, 1, 1, 3), (123, 0, 0, 89), (123, 1, 8, 3), (123, 2, 9, 3), (124, 0, 0, 89), (124, 1, 8, 3), (124, 2, 9, 3)]
    arr := [(132, 6, 3), (140, 7, 3)]
    eqs := [7, 8, 44, 45, 54, 55, 88, 89, 103, 104] }
def cfg : Cfg U := tb.cfg K
theorem varOk : tb.var.all (varB Try.prog) = true := by kernel_rfl
theorem slOk : tb.sl.all (fun x => slB Try.prog tb.el x && (K.aT x.2).isNone) = true := by kernel_rfl
theorem fldOk : tb.fld.all (fldB Try.prog) = true := by kernel_rfl
theorem arrOk : tb.arr.all (arrB Try.prog) = true := by kernel_rfl
theorem elOk : ∀ t, elB Try.prog K tb t = true := by
  intro t
  cases t
  · kernel_rfl
  · kernel_rfl
  · kernel_rfl
  · kernel_rfl
  · kernel_rfl
  · kernel_rfl
  · kernel_rfl
  · kernel_rfl
  · kernel_rfl
  · kernel_rfl
  · kernel_rfl
theorem cfgOk : CfgOk Try.prog cfg := tables_ok K_ok varOk slOk fldOk arrOk elOk (by kernel_rfl) (by kernel_rfl)
end Go.AM.Ytcljdbpmjdgooaa

namespace Go.AM.Ytcljdbpmjdgooaa
open Go.AM Go.Proofs Go.Proofs.Ytcljdbpmjdgooaa Go.ChangeShapes Go.WideShapes Go.RowKit
theorem own : ownKnob Try.prog.godebug = none := by kernel_rfl
theorem laidOut : laidOutB Try.prog = true := by kernel_rfl
theorem treeTypes : TreeTypes cfg := ⟨rfl, rfl, ⟨_, rfl⟩, ⟨_, rfl⟩, ⟨_, rfl, rfl⟩, ⟨_, _, rfl, rfl⟩, ⟨_, _, rfl, rfl, rfl⟩, ⟨_, _, rfl, rfl, rfl⟩⟩
theorem argTree {H : Type} {henc : TypeId × Value → H} : ArgR henc Try.prog cfg (aEl .tree) 25 inT := argR_el cfgOk rfl ⟨_, _, rfl⟩ (fun _ n cs h => rd_tree cfgOk treeTypes n cs h)
end Go.AM.Ytcljdbpmjdgooaa

namespace Go.AM
def pz : Ptr := ⟨0, 0, 0, 0, 0, 0, 0, false⟩
def offP (w : Int) : Int := if 536870912 ≤ w / 4 % 1073741824 then w / 4 % 1073741824 - 1073741824 else w / 4 % 1073741824
def decP (w : Int) : Ptr :=
  if w = 0 then pz
  else if w % 4 = 0 then ⟨1, offP w, w / 4294967296 % 65536, w / 281474976710656, 0, 0, 0, false⟩
  else if w % 4 = 1 then ⟨2, offP w, 0, 0, w / 4294967296 % 8, w / 34359738368, 0, false⟩
  else if w % 4 = 2 then ⟨3, w / 8 % 536870912, 0, 0, 0, 0, w / 4294967296, decide (w / 4 % 2 = 1)⟩
  else ⟨4, 0, 0, 0, 0, 0, 0, false⟩
def segAt (l : List (List Int)) (s : Int) : List Int := if s < 0 then [] else l.getD s.toNat []
def hasN (l : List (List Int)) (s a n : Int) : Bool := decide (0 ≤ s ∧ s < (l.length : Int) ∧ 0 ≤ a ∧ 0 ≤ n ∧ a + n ≤ ((segAt l s).length : Int))
def off0 (p : Ptr) : Ptr := ⟨p.kind, 0, p.data, p.ptrs, p.code, p.count, p.segment, p.double⟩
def okSeg (l : List (List Int)) : Prop := l.length ≤ 5864062014805 ∧ ∀ w ∈ l, w.length ≤ 17592186044416 ∧ ∀ x ∈ w, 0 ≤ x ∧ x < 18446744073709551616
theorem okSeg_at {l : List (List Int)} (h : okSeg l) (s : Int) : (segAt l s).length ≤ 17592186044416 ∧ ∀ x ∈ segAt l s, 0 ≤ x ∧ x < 18446744073709551616 := by
  unfold segAt
  split
  · exact ⟨by simp, fun x hx => by cases hx⟩
  · by_cases hs : s.toNat < l.length
    · rw [List.getD_eq_getElem?_getD, List.getElem?_eq_getElem hs]
      exact h.2 _ (List.getElem_mem hs)
    · rw [List.getD_eq_getElem?_getD, List.getElem?_eq_none (by omega)]
      exact ⟨by simp, fun x hx => by cases hx⟩
theorem getD_word {w : List Int} (h : ∀ x ∈ w, 0 ≤ x ∧ x < 18446744073709551616) (i : Nat) : 0 ≤ w.getD i 0 ∧ w.getD i 0 < 18446744073709551616 := by
  rw [List.getD_eq_getElem?_getD]
  by_cases hi : i < w.length
  · rw [List.getElem?_eq_getElem hi]; exact h _ (List.getElem_mem hi)
  · rw [List.getElem?_eq_none (by omega)]; decide
theorem hasN_iff {l : List (List Int)} {s a n : Int} : hasN l s a n = true ↔ 0 ≤ s ∧ s < (l.length : Int) ∧ 0 ≤ a ∧ 0 ≤ n ∧ a + n ≤ ((segAt l s).length : Int) := by simp [hasN]
theorem wd_cases (c : Int) : wd c = -1 ∨ wd c = 0 ∨ wd c = 1 ∨ wd c = 8 ∨ wd c = 16 ∨ wd c = 32 ∨ wd c = 64 := by
  unfold wd
  repeat' split
  all_goals simp
end Go.AM

namespace Go.AM
def okW (l : List Int) : Prop := ∀ x ∈ l, 0 ≤ x ∧ x < 18446744073709551616
def segO (a : Option Arena) : List (List Int) := match a with
  | none => []
  | some x => x.segs
def okB (a : Option Arena) : Prop := okSeg (segO a)
theorem wrap_u64 {n : Int} (h0 : 0 ≤ n) (h1 : n < 18446744073709551616) : IntKind.wrap .u64 n = n := by
  simp [IntKind.wrap, IntKind.signed, IntKind.bits]; omega
theorem wrap_i64 {n : Int} (h0 : -9223372036854775808 ≤ n) (h1 : n < 9223372036854775808) : IntKind.wrap .i64 n = n := by
  simp [IntKind.wrap, IntKind.signed, IntKind.bits]
  split <;> omega
theorem and_mask {a : Int} (h0 : 0 ≤ a) (h1 : a < 18446744073709551616) (k : Nat) (hk : k ≤ 64) {m : Int} (hm : m = 2 ^ k - 1) :
    IntKind.wrap .u64 (BitVec.ofInt (IntKind.bits .u64) a &&& BitVec.ofInt (IntKind.bits .u64) m).toNat = a % 2 ^ k := by
  obtain ⟨n, rfl⟩ := Int.eq_ofNat_of_zero_le h0
  subst hm
  have e1 : BitVec.ofInt (IntKind.bits .u64) ((n : Nat) : Int) = BitVec.ofNat 64 n := by simp [IntKind.bits]
  have hpos : (0 : Nat) < 2 ^ k := Nat.two_pow_pos k
  have e2 : ((2 : Int) ^ k - 1) = ((2 ^ k - 1 : Nat) : Int) := by rw [Int.ofNat_sub hpos]; simp
  rw [e1, e2]
  have e3 : BitVec.ofInt (IntKind.bits .u64) ((2 ^ k - 1 : Nat) : Int) = BitVec.ofNat 64 (2 ^ k - 1) := by simp [IntKind.bits]
  rw [e3]
  have hle : 2 ^ k ≤ 2 ^ 64 := Nat.pow_le_pow_right (by decide) hk
  have hn : n < 2 ^ 64 := by omega
  have e4 : (BitVec.ofNat 64 n &&& BitVec.ofNat 64 (2 ^ k - 1)).toNat = n % 2 ^ k := by
    rw [BitVec.toNat_and, BitVec.toNat_ofNat, BitVec.toNat_ofNat, Nat.mod_eq_of_lt hn, Nat.mod_eq_of_lt (by omega), Nat.and_two_pow_sub_one_eq_mod]
  show IntKind.wrap .u64 ((BitVec.ofNat 64 n &&& BitVec.ofNat 64 (2 ^ k - 1)).toNat : Int) = _
  rw [e4, wrap_u64 (by omega) (by have := Nat.mod_lt n hpos; omega)]
  simp
end Go.AM

namespace Go.AM.Ytcljdbpmjdgooaa
open Go.AM Go.Proofs
def args88 : ArgL (Int × Unit) := (.cons (aInt .i64) .nil)
def pre88 (a : Int × Unit) : Prop := True
noncomputable def res88 (a : Int × Unit) : V U := .tup [(false, [.int .i64 (if wd a.1 < 0 then 0 else wd a.1)]), (false, [.bool (decide (0 ≤ wd a.1))])]
noncomputable def spec88 : Fs U := fs args88 (fun a => [pre88 a]) res88
def args101 : ArgL (Int × Unit) := (.cons (aInt .u64) .nil)
def pre101 (a : Int × Unit) : Prop := (0 ≤ a.1 ∧ a.1 < 18446744073709551616)
noncomputable def res101 (a : Int × Unit) : V U := .agg [.int .i64 (Ptr.kind (decP a.1)), .int .i64 (Ptr.off (decP a.1)), .int .i64 (Ptr.data (decP a.1)), .int .i64 (Ptr.ptrs (decP a.1)), .int .i64 (Ptr.code (decP a.1)), .int .i64 (Ptr.count (decP a.1)), .int .i64 (Ptr.segment (decP a.1)), .bool (Ptr.double (decP a.1))]
noncomputable def spec101 : Fs U := fs args101 (fun a => [pre101 a]) res101
def args99 : ArgL (Int × Int × Unit) := (.cons (aInt .i64) (.cons (aInt .i64) .nil))
def pre99 (a : Int × Int × Unit) : Prop := True
noncomputable def res99 (a : Int × Int × Unit) : V U := .c (.bool (decide (0 ≤ a.1 ∧ a.1 ≤ a.2.1)))
noncomputable def spec99 : Fs U := fs args99 (fun a => [pre99 a]) res99
noncomputable def know88 : List (FuncId × Fs U) := []
def lv88 : Lives U := fun i => match i with
  | 0 => ([(0, [])], [])
  | 1 => ([(0, []), (4, [])], [((.loc 4), [])])
  | 2 => ([(0, []), (4, []), (11, [])], [((.loc 4), [])])
  | 3 => ([(2, []), (3, [])], [])
  | 4 => ([(2, []), (3, [])], [])
  | _ => ([], [])
noncomputable abbrev A88 (p : List Nat) := awp cfg (know know88) (drawOk cfg (know know88)) Try.f88.ntmps lv88 (cd Try.f88 p)
theorem vc88 (c : Int) (Q : AExit → LSt U → Prop) (h : (((Tr ((!(decide ((c : Int) < 0))) = true)) ∧ (((decide ((c : Int) < 0)) = false → (!(decide ((c : Int) < 0))) = true)) ∧ (((bif (decide ((c : Int) < 0)) then true else (decide ((6 : Int) ≤ c))) = true → (Q .ret (⟨[(2, .c (.int .i64 0)), (3, .c (.bool false))], [], []⟩ : LSt U))) ∧ ((bif (decide ((c : Int) < 0)) then true else (decide ((6 : Int) ≤ c))) = false → ((0 : Int) ≤ c ∧ c < ((6 : Nat) : Int)) ∧ (Q .ret (⟨[(2, .c (.int .i64 (List.getD [0, 1, 8, 16, 32, 64] (Int.toNat c) 0))), (3, .c (.bool true))], [], []⟩ : LSt U))))))) :
    A88 [] (⟨[(0, .c (.int .i64 c))], [], []⟩ : LSt U) Q :=
  Eq.mpr (by kernel_rfl) h
def Body88 (c : Int)  : Prop := awp cfg (know (know88)) (drawOk cfg (know (know88))) Try.f88.ntmps lv88 (cd Try.f88 []) (entry (args88.can (c, ())) []) (EndsQ cfg Try.f88.ntmps Try.f88.results.toList (res88 (c, ())) [])
theorem make88 (hb : ∀ (c : Int) (_ : Unit), pre88 (c, ()) → Body88 c) : Contract Try.prog cfg 88 spec88 :=
  contract_flat (l := []) cfgOk rfl (trivial) lv88 Try.func88 rfl rfl 1 (fun _ => rfl) (by decide) (fun ⟨c, _⟩ => hb c ())
noncomputable def know101 : List (FuncId × Fs U) := []
def lv101 : Lives U := fun i => match i with
  | 0 => ([(0, []), (2, [])], [((.loc 2), [])])
  | 1 => ([(0, []), (2, []), (3, [])], [((.loc 2), [])])
  | 2 => ([(0, []), (2, []), (3, []), (9, [])], [((.loc 2), [])])
  | 3 => ([(2, [])], [((.loc 2), [])])
  | 4 => ([(0, []), (2, []), (3, []), (13, [])], [((.loc 2), [])])
  | 5 => ([(2, [])], [((.loc 2), [])])
  | 6 => ([(0, []), (2, []), (3, []), (26, [])], [((.loc 2), [])])
  | 7 => ([(2, [])], [((.loc 2), [])])
  | 8 => ([(0, []), (2, []), (39, [])], [((.loc 2), [])])
  | 9 => ([(2, [])], [((.loc 2), [])])
  | 10 => ([(2, [])], [((.loc 2), [])])
  | _ => ([], [])
noncomputable abbrev A101 (p : List Nat) := awp cfg (know know101) (drawOk cfg (know know101)) Try.f101.ntmps lv101 (cd Try.f101 p)
theorem vc101 (w : Int) (Q : AExit → LSt U → Prop) (h : ∀ y_1, y_1 = (BitVec.ofInt (IntKind.bits .u64) w &&& BitVec.ofInt (IntKind.bits .u64) 3) → (((0 : Int) ≤ 2) ∧ (((((w : Int) == 0) = true → (Q .ret (⟨[(2, .ptr (.loc 2) 0)], [((.loc 2), [.int .i64 0, .int .i64 0, .int .i64 0, .int .i64 0, .int .i64 0, .int .i64 0, .int .i64 0, .bool false])], []⟩ : LSt U))) ∧ (((w : Int) == 0) = false → (((((IntKind.wrap .u64 y_1.toNat) : Int) == 0) = true → ((0 : Int) ≤ 32) ∧ ((0 : Int) ≤ 48) ∧ (Q .ret (⟨[(2, .ptr (.loc 2) 0)], [((.loc 2), [.int .i64 1, .int .i64 (Int.fdiv (IntKind.wrap .i64 (IntKind.wrap .i32 (IntKind.wrap .u32 w))) (2 ^ (min (Int.toNat 2) (IntKind.bits .i64)))), .int .i64 (IntKind.wrap .i64 (IntKind.wrap .u64 (BitVec.ofInt (IntKind.bits .u64) (Int.fdiv w (2 ^ (min (Int.toNat 32) (IntKind.bits .u64)))) &&& BitVec.ofInt (IntKind.bits .u64) 65535).toNat)), .int .i64 (IntKind.wrap .i64 (Int.fdiv w (2 ^ (min (Int.toNat 48) (IntKind.bits .u64))))), .int .i64 0, .int .i64 0, .int .i64 0, .bool false])], []⟩ : LSt U))) ∧ ((((IntKind.wrap .u64 y_1.toNat) : Int) == 0) = false → (((((IntKind.wrap .u64 y_1.toNat) : Int) == 1) = true → ((0 : Int) ≤ 32) ∧ ((0 : Int) ≤ 35) ∧ (Q .ret (⟨[(2, .ptr (.loc 2) 0)], [((.loc 2), [.int .i64 2, .int .i64 (Int.fdiv (IntKind.wrap .i64 (IntKind.wrap .i32 (IntKind.wrap .u32 w))) (2 ^ (min (Int.toNat 2) (IntKind.bits .i64)))), .int .i64 0, .int .i64 0, .int .i64 (IntKind.wrap .i64 (IntKind.wrap .u64 (BitVec.ofInt (IntKind.bits .u64) (Int.fdiv w (2 ^ (min (Int.toNat 32) (IntKind.bits .u64)))) &&& BitVec.ofInt (IntKind.bits .u64) 7).toNat)), .int .i64 (IntKind.wrap .i64 (Int.fdiv w (2 ^ (min (Int.toNat 35) (IntKind.bits .u64))))), .int .i64 0, .bool false])], []⟩ : LSt U))) ∧ ((((IntKind.wrap .u64 y_1.toNat) : Int) == 1) = false → (((((IntKind.wrap .u64 y_1.toNat) : Int) == 2) = true → ((0 : Int) ≤ 3) ∧ ((0 : Int) ≤ 32) ∧ (Q .ret (⟨[(2, .ptr (.loc 2) 0)], [((.loc 2), [.int .i64 3, .int .i64 (IntKind.wrap .i64 (IntKind.wrap .u64 (BitVec.ofInt (IntKind.bits .u64) (Int.fdiv w (2 ^ (min (Int.toNat 3) (IntKind.bits .u64)))) &&& BitVec.ofInt (IntKind.bits .u64) 536870911).toNat)), .int .i64 0, .int .i64 0, .int .i64 0, .int .i64 0, .int .i64 (IntKind.wrap .i64 (Int.fdiv w (2 ^ (min (Int.toNat 32) (IntKind.bits .u64))))), .bool (((IntKind.wrap .u64 (BitVec.ofInt (IntKind.bits .u64) w &&& BitVec.ofInt (IntKind.bits .u64) 4).toNat) : Int) != 0)])], []⟩ : LSt U))) ∧ ((((IntKind.wrap .u64 y_1.toNat) : Int) == 2) = false → (Q .ret (⟨[(2, .ptr (.loc 2) 0)], [((.loc 2), [.int .i64 4, .int .i64 0, .int .i64 0, .int .i64 0, .int .i64 0, .int .i64 0, .int .i64 0, .bool false])], []⟩ : LSt U))))))))))))) :
    A101 [] (⟨[(0, .c (.int .u64 w))], [], []⟩ : LSt U) Q :=
  Eq.mpr (by kernel_rfl) (h _ rfl)
def Body101 (w : Int)  : Prop := awp cfg (know (know101)) (drawOk cfg (know (know101))) Try.f101.ntmps lv101 (cd Try.f101 []) (entry (args101.can (w, ())) []) (EndsQ cfg Try.f101.ntmps Try.f101.results.toList (res101 (w, ())) [])
theorem make101 (hb : ∀ (w : Int) (_ : Unit), pre101 (w, ()) → Body101 w) : Contract Try.prog cfg 101 spec101 :=
  contract_flat (l := []) cfgOk rfl (trivial) lv101 Try.func101 rfl rfl 1 (fun _ => rfl) (by decide) (fun ⟨w, _⟩ => hb w ())
noncomputable def know99 : List (FuncId × Fs U) := []
def lv99 : Lives U := fun i => match i with
  | 0 => ([(0, []), (1, [])], [])
  | 1 => ([(4, [])], [])
  | _ => ([], [])
noncomputable abbrev A99 (p : List Nat) := awp cfg (know know99) (drawOk cfg (know know99)) Try.f99.ntmps lv99 (cd Try.f99 p)
theorem vc99 (n : Int) (to : Int) (Q : AExit → LSt U → Prop) (h : ((Tr ((decide ((0 : Int) ≤ n)) = true)) ∧ (Tr ((decide ((0 : Int) ≤ n)) = true)) ∧ ((Tr ((decide ((0 : Int) ≤ n)) = true))) ∧ (Q .ret (⟨[(4, .c (.bool (bif (decide ((0 : Int) ≤ n)) then (decide ((n : Int) ≤ to)) else false)))], [], []⟩ : LSt U)))) :
    A99 [] (⟨[(0, .c (.int .i64 n)), (1, .c (.int .i64 to))], [], []⟩ : LSt U) Q :=
  Eq.mpr (by kernel_rfl) h
def Body99 (n : Int) (to : Int)  : Prop := awp cfg (know (know99)) (drawOk cfg (know (know99))) Try.f99.ntmps lv99 (cd Try.f99 []) (entry (args99.can (n, to, ())) []) (EndsQ cfg Try.f99.ntmps Try.f99.results.toList (res99 (n, to, ())) [])
theorem make99 (hb : ∀ (n : Int) (to : Int) (_ : Unit), pre99 (n, to, ()) → Body99 n to) : Contract Try.prog cfg 99 spec99 :=
  contract_flat (l := []) cfgOk rfl (trivial) lv99 Try.func99 rfl rfl 2 (fun _ => rfl) (by decide) (fun ⟨n, to, _⟩ => hb n to ())
end Go.AM.Ytcljdbpmjdgooaa

namespace Go.AM.Ytcljdbpmjdgooaa
open Go.AM Go.Proofs
theorem ends_bool {n k : Nat} {rs : List ResultVar} {b b' : Bool} (hr : rs = [ResultVar.tmp k]) (h : b = b') : EndsQ cfg n rs (.c (.bool b')) [] .ret (⟨[(k, .c (.bool b))], [], []⟩ : LSt U) := by
  subst hr h
  have hk : Nat.beq k k = true := Nat.beq_refl k
  simp [EndsQ, Ends, EndsL, LsEnd, seenL, lsSet, resAll, resOne, LSt.toF, look, hk, partsV, resTok, passC, passC1, leR, leL, leC, XEnd]
theorem ends_int {n k : Nat} {rs : List ResultVar} {K : IntKind} {b b' : Int} (hr : rs = [ResultVar.tmp k]) (h : b = b') : EndsQ cfg n rs (.c (.int K b')) [] .ret (⟨[(k, .c (.int K b))], [], []⟩ : LSt U) := by
  subst hr h
  have hk : Nat.beq k k = true := Nat.beq_refl k
  simp [EndsQ, Ends, EndsL, LsEnd, seenL, lsSet, resAll, resOne, LSt.toF, look, hk, partsV, resTok, passC, passC1, leR, leL, leC, XEnd]
theorem ends_eq {n : Nat} {rs : List ResultVar} {r r' : V U} {X : List (List (C U))} {e : AExit} {s : LSt U} (hr : r = r') (h : EndsQ cfg n rs r' X e s) : EndsQ cfg n rs r X e s := by rw [hr]; exact h
theorem dropI {α : Type} {l : List α} {i : Int} (h0 : 0 ≤ i) (h : i < l.length) (d : α) : l.drop i.toNat = l.getD i.toNat d :: l.drop (i + 1).toNat := by
  rw [show (i + 1).toNat = i.toNat + 1 by omega, List.getD_eq_getElem?_getD, List.getElem?_eq_getElem (by omega)]
  exact List.drop_eq_getElem_cons (by omega)
theorem mem_getD {α : Type} {l : List α} {i : Nat} (h : i < l.length) (d : α) : l.getD i d ∈ l := by
  rw [List.getD_eq_getElem?_getD, List.getElem?_eq_getElem h]
  exact List.getElem_mem h
theorem pow2_pos (k : Nat) : (0 : Int) < 2 ^ k := Int.pow_pos (by decide)
end Go.AM.Ytcljdbpmjdgooaa

namespace Go.AM.Ytcljdbpmjdgooaa
open Go.AM Go.Proofs
theorem wd_list {c : Int} (h0 : 0 ≤ c) (h1 : c < 6) : List.getD [0, 1, 8, 16, 32, 64] c.toNat 0 = wd c ∧ 0 ≤ wd c := by
  have : c = 0 ∨ c = 1 ∨ c = 2 ∨ c = 3 ∨ c = 4 ∨ c = 5 := by omega
  rcases this with rfl | rfl | rfl | rfl | rfl | rfl <;> decide
theorem wd_out {c : Int} (h : c < 0 ∨ 6 ≤ c) : wd c = -1 := by
  unfold wd
  repeat' split
  all_goals omega
theorem c88 : Contract Try.prog cfg 88 spec88 := by
  refine make88 ?_
  intro c _ _
  refine vc88 _ _ ?_
  (simp only [vcT, vcS])
  refine ⟨fun h => ?_, fun h => ⟨by omega, ?_⟩⟩
  · refine ends_eq (r' := .tup [(false, [.int .i64 0]), (false, [.bool false])]) ?_ (by (repeat' (first | exact trivial | exact rfl | apply And.intro)))
    simp only [res88, wd_out h]
    rfl
  · have hw := wd_list (c := c) (by omega) (by omega)
    refine ends_eq (r' := .tup [(false, [.int .i64 (List.getD [0, 1, 8, 16, 32, 64] (Int.toNat c) 0)]), (false, [.bool true])]) ?_ (by (repeat' (first | exact trivial | exact rfl | apply And.intro)))
    simp only [res88, hw.1]
    rw [if_neg (by omega), decide_eq_true hw.2]
theorem wd_div (c : Int) : wd c < 1 ∨ wd c = 1 ∨ wd c = 8 ∨ wd c = 16 ∨ wd c = 32 ∨ wd c = 64 := by have := wd_cases c; omega
theorem wd_le (c : Int) : -1 ≤ wd c ∧ wd c ≤ 64 := by have := wd_cases c; omega
theorem wd_at {c i : Int} (hi : 0 ≤ i) (hi' : i ≤ 1099511627776) (hw : 1 ≤ wd c) : 0 ≤ i * wd c ∧ i * wd c ≤ 70368744177664 ∧ i * wd c % 64 + wd c ≤ 64 ∧
    ∀ k, 0 ≤ k → k < wd c → (i * wd c + k) / 64 = i * wd c / 64 ∧ (i * wd c + k) % 64 = i * wd c % 64 + k := by
  rcases wd_div c with e | e | e | e | e | e
  · omega
  all_goals (rw [e]; refine ⟨by omega, by omega, by omega, fun k _ _ => ⟨by omega, by omega⟩⟩)
theorem shr_u64 {x : Int} {n : Int} (h0 : 0 ≤ n) (h1 : n ≤ 64) : Int.fdiv x (2 ^ (min n.toNat (IntKind.bits .u64))) = x / 2 ^ n.toNat := by
  rw [show min n.toNat (IntKind.bits .u64) = n.toNat by simp [IntKind.bits]; omega, Int.fdiv_eq_ediv_of_nonneg _ (Int.le_of_lt (pow2_pos _))]
theorem and3 {w : Int} (h0 : 0 ≤ w) (h1 : w < 18446744073709551616) : IntKind.wrap .u64 (BitVec.ofInt (IntKind.bits .u64) w &&& BitVec.ofInt (IntKind.bits .u64) 3).toNat = w % 4 := and_mask h0 h1 2 (by decide) rfl
theorem and4 {w : Int} (h0 : 0 ≤ w) (h1 : w < 18446744073709551616) : (IntKind.wrap .u64 (BitVec.ofInt (IntKind.bits .u64) w &&& BitVec.ofInt (IntKind.bits .u64) 4).toNat != 0) = decide (w / 4 % 2 = 1) := by
  obtain ⟨n, rfl⟩ := Int.eq_ofNat_of_zero_le h0
  have e1 : BitVec.ofInt (IntKind.bits .u64) ((n : Nat) : Int) = BitVec.ofNat 64 n := by simp [IntKind.bits]
  have e2 : BitVec.ofInt (IntKind.bits .u64) (4 : Int) = BitVec.ofNat 64 4 := rfl
  rw [e1, e2]
  have hn : n < 2 ^ 64 := by omega
  have e4 : (BitVec.ofNat 64 n &&& BitVec.ofNat 64 4).toNat = n / 4 % 2 * 4 := by
    rw [BitVec.toNat_and, BitVec.toNat_ofNat, BitVec.toNat_ofNat, Nat.mod_eq_of_lt hn]
    apply Nat.eq_of_testBit_eq
    intro k
    rw [Nat.testBit_and, show (4 % 2 ^ 64 : Nat) = 2 ^ 2 from rfl, Nat.testBit_two_pow]
    by_cases hk : 2 = k
    · subst hk
      rw [Nat.testBit_eq_decide_div_mod_eq]
      have : n / 4 % 2 = 0 ∨ n / 4 % 2 = 1 := by omega
      rcases this with e | e <;> rw [show n / 2 ^ 2 = n / 4 from rfl, e] <;> decide
    · have : n / 4 % 2 = 0 ∨ n / 4 % 2 = 1 := by omega
      rcases this with e | e <;> rw [e]
      · simp [hk]
      · rw [show 1 * 4 = 2 ^ 2 from rfl, Nat.testBit_two_pow]; simp [hk]
  show (IntKind.wrap .u64 ((BitVec.ofNat 64 n &&& BitVec.ofNat 64 4).toNat : Int) != 0) = _
  rw [e4, wrap_u64 (by omega) (by omega)]
  rw [Bool.eq_iff_iff]
  simp
  omega
theorem off_dec {w : Int} (h0 : 0 ≤ w) (h1 : w < 18446744073709551616) : Int.fdiv (IntKind.wrap .i64 (IntKind.wrap .i32 (IntKind.wrap .u32 w))) (2 ^ (min (Int.toNat 2) (IntKind.bits .i64))) = offP w := by
  show Int.fdiv _ 4 = _
  rw [Int.fdiv_eq_ediv_of_nonneg _ (by decide)]
  unfold offP
  simp only [IntKind.wrap, IntKind.signed, IntKind.bits]
  simp
  repeat' split
  all_goals omega
theorem c101 : Contract Try.prog cfg 101 spec101 := by
  refine make101 ?_
  intro w _ hp
  simp only [pre101] at hp
  refine vc101 _ _ ?_
  rintro y hy
  dsimp only at hy
  have h3 := and3 hp.1 hp.2
  rw [← hy] at h3
  (simp only [vcT, vcS])
  rw [h3, off_dec hp.1 hp.2, and4 hp.1 hp.2]
  have hs : ∀ (k : Nat), k ≤ 64 → Int.fdiv w (2 ^ (min (Int.toNat (k : Int)) (IntKind.bits .u64))) = w / 2 ^ k := fun k hk => shr_u64 (x := w) (n := (k : Int)) (by omega) (by omega)
  have s32 := hs 32 (by decide)
  have s48 := hs 48 (by decide)
  have s35 := hs 35 (by decide)
  have s3 := hs 3 (by decide)
  have m1 : ∀ x m : Int, 0 ≤ x → x < 18446744073709551616 → ∀ k : Nat, k ≤ 32 → m = 2 ^ k - 1 → IntKind.wrap .i64 (IntKind.wrap .u64 (BitVec.ofInt (IntKind.bits .u64) x &&& BitVec.ofInt (IntKind.bits .u64) m).toNat) = x % 2 ^ k := by
    intro x m hx0 hx1 k hk hm
    rw [and_mask hx0 hx1 k (by omega) hm]
    have hp' := pow2_pos k
    have hle : (2 : Int) ^ k ≤ 4294967296 := by
      have : (2 : Int) ^ k = ((2 ^ k : Nat) : Int) := by simp
      rw [this]
      have := Nat.pow_le_pow_right (n := 2) (show 0 < 2 by decide) hk
      omega
    have a1 := Int.emod_nonneg x (show (2 : Int) ^ k ≠ 0 by omega)
    have a2 := Int.emod_lt_of_pos x hp'
    exact wrap_i64 (by omega) (by omega)
  erw [s32, s48, s35, s3]
  rw [m1 _ 65535 (by omega) (by omega) 16 (by decide) rfl, m1 _ 7 (by omega) (by omega) 3 (by decide) rfl, m1 _ 536870911 (by omega) (by omega) 29 (by decide) rfl]
  rw [wrap_i64 (n := w / 2 ^ 48) (by omega) (by omega), wrap_i64 (n := w / 2 ^ 35) (by omega) (by omega), wrap_i64 (n := w / 2 ^ 32) (by omega) (by omega)]
  refine ⟨by decide, fun h => ?_, fun hz => ⟨fun h => ⟨by decide, by decide, ?_⟩, fun h0 => ⟨fun h => ⟨by decide, by decide, ?_⟩, fun h1 => ⟨fun h => ⟨by decide, by decide, ?_⟩, fun h2 => ?_⟩⟩⟩⟩
  all_goals
    refine ends_eq (r' := .agg (enc .ptr (decP w))) rfl ?_
  · rw [show decP w = pz by unfold decP; rw [if_pos h]]; (repeat' (first | exact trivial | exact rfl | apply And.intro))
  · rw [show decP w = ⟨1, offP w, w / 4294967296 % 65536, w / 281474976710656, 0, 0, 0, false⟩ by unfold decP; rw [if_neg hz, if_pos h]]; (repeat' (first | exact trivial | exact rfl | apply And.intro))
  · rw [show decP w = ⟨2, offP w, 0, 0, w / 4294967296 % 8, w / 34359738368, 0, false⟩ by unfold decP; rw [if_neg hz, if_neg h0, if_pos h]]; (repeat' (first | exact trivial | exact rfl | apply And.intro))
  · rw [show decP w = ⟨3, w / 8 % 536870912, 0, 0, 0, 0, w / 4294967296, decide (w / 4 % 2 = 1)⟩ by unfold decP; rw [if_neg hz, if_neg h0, if_neg h1, if_pos h]]; (repeat' (first | exact trivial | exact rfl | apply And.intro))
  · rw [show decP w = ⟨4, 0, 0, 0, 0, 0, 0, false⟩ by unfold decP; rw [if_neg hz, if_neg h0, if_neg h1, if_neg h2]]; (repeat' (first | exact trivial | exact rfl | apply And.intro))
theorem c99 : Contract Try.prog cfg 99 spec99 := by
  refine make99 ?_
  intro n to _ _
  refine vc99 _ _ _ ?_
  (simp only [vcT, vcS])
  refine ends_bool rfl ?_
  rw [Bool.eq_iff_iff]
  (simp only [vcT, vcS])
end Go.AM.Ytcljdbpmjdgooaa

namespace Go.AM.Ytcljdbpmjdgooaa
open Go.AM Go.Proofs
def roomW (c n : Int) : Int := if wd c < 1 ∨ n < 0 ∨ 1099511627776 < n then 0 else (n * wd c + 63) / 64
def putS (c : Int) (l : List Int) (i n : Int) : List Int :=
  if wd c < 1 then l else l.set (i * wd c / 64).toNat (l.getD (i * wd c / 64).toNat 0 + n * 2 ^ (i * wd c % 64).toNat)
def putGo (c : Int) : List Int → Int → List Int → List Int
  | l, _, [] => l
  | l, i, n :: r => putGo c (putS c l i n) (i + 1) r
def putW (c : Int) (ns : List Int) : List Int := putGo c (List.replicate (roomW c ns.length).toNat 0) 0 ns
def fitsA (c : Int) (ns : List Int) : Bool := decide (0 ≤ wd c) && ns.all (fits c)
def putR (c : Int) (ns : List Int) : List Int := if fitsA c ns then putW c ns else []
theorem putGo_append (c : Int) : ∀ (a b l : List Int) (i : Int), putGo c l i (a ++ b) = putGo c (putGo c l i a) (i + a.length) b
  | [], b, l, i => by simp [putGo]
  | n :: r, b, l, i => by
    simp only [List.cons_append, putGo]
    rw [putGo_append c r b _ (i + 1)]
    congr 1
    simp
    omega
theorem putS_len (c : Int) (l : List Int) (i n : Int) : (putS c l i n).length = l.length := by
  unfold putS
  split <;> simp
theorem putGo_len (c : Int) : ∀ (a l : List Int) (i : Int), (putGo c l i a).length = l.length
  | [], l, i => rfl
  | n :: r, l, i => by rw [putGo, putGo_len c r, putS_len]
def putN (c : Int) (ns : List Int) (i : Int) : List Int := putGo c (List.replicate (roomW c ns.length).toNat 0) 0 (ns.take i.toNat)
theorem putN_zero (c : Int) (ns : List Int) : putN c ns 0 = List.replicate (roomW c ns.length).toNat 0 := by simp [putN, putGo]
theorem putN_succ (c : Int) (ns : List Int) {i : Int} (h0 : 0 ≤ i) (h : i < ns.length) : putN c ns (i + 1) = putS c (putN c ns i) i (ns.getD i.toNat 0) := by
  unfold putN
  have e : ns.take (i + 1).toNat = ns.take i.toNat ++ [ns.getD i.toNat 0] := by
    rw [show (i + 1).toNat = i.toNat + 1 by omega, List.getD_eq_getElem?_getD, List.getElem?_eq_getElem (show i.toNat < ns.length by omega), Option.getD_some]
    exact (List.take_append_getElem (by omega)).symm
  rw [e, putGo_append]
  simp only [putGo, List.length_take]
  congr 1
  omega
theorem putN_all (c : Int) (ns : List Int) : putN c ns ns.length = putW c ns := by simp [putN, putW]
theorem putN_len (c : Int) (ns : List Int) (i : Int) : (putN c ns i).length = (roomW c ns.length).toNat := by simp [putN, putGo_len]
theorem room_at {c n i : Int} (hw : 1 ≤ wd c) (h0 : 0 ≤ i) (h1 : i < n) (h2 : n ≤ 1099511627776) : i * wd c / 64 < roomW c n ∧ 0 ≤ i * wd c / 64 := by
  unfold roomW
  rw [if_neg (by omega)]
  rcases wd_div c with e | e | e | e | e | e
  · omega
  all_goals (rw [e]; omega)
def usedB (c i : Int) (q : Nat) : Nat := min 64 (i * wd c - 64 * q).toNat
def PutI (c : Int) (l : List Int) (i : Int) : Prop := ∀ q : Nat, 0 ≤ l.getD q 0 ∧ l.getD q 0 < 2 ^ usedB c i q
theorem used_at {c i : Int} (hw : 1 ≤ wd c) (h0 : 0 ≤ i) (h2 : i ≤ 1099511627776) : usedB c i (i * wd c / 64).toNat = (i * wd c % 64).toNat ∧ usedB c (i + 1) (i * wd c / 64).toNat = (i * wd c % 64).toNat + (wd c).toNat := by
  unfold usedB
  rcases wd_div c with e | e | e | e | e | e
  · omega
  all_goals (rw [e]; constructor <;> omega)
theorem used_mono (c i : Int) (q : Nat) (hw : 1 ≤ wd c) : usedB c i q ≤ usedB c (i + 1) q := by
  unfold usedB
  have : i * wd c ≤ (i + 1) * wd c := by rw [Int.add_mul]; omega
  omega
theorem pow_le_pow {a b : Nat} (h : a ≤ b) : (2 : Int) ^ a ≤ 2 ^ b := by
  have e : ∀ k : Nat, (2 : Int) ^ k = ((2 ^ k : Nat) : Int) := fun k => by simp
  rw [e, e]
  exact Int.ofNat_le.2 (Nat.pow_le_pow_right (by decide) h)
theorem put_num {x n : Int} {a w : Nat} (hx : 0 ≤ x) (hx' : x < 2 ^ a) (hn : 0 ≤ n) (hn' : n < 2 ^ w) : 0 ≤ x + n * 2 ^ a ∧ x + n * 2 ^ a < 2 ^ (a + w) ∧ 0 ≤ n * 2 ^ a := by
  have hp := pow2_pos a
  have h1 : 0 ≤ n * 2 ^ a := Int.mul_nonneg hn (Int.le_of_lt hp)
  have h2 : (n + 1) * 2 ^ a ≤ 2 ^ w * 2 ^ a := Int.mul_le_mul_of_nonneg_right (by omega) (Int.le_of_lt hp)
  rw [Int.add_mul, Int.one_mul] at h2
  rw [Int.pow_add, Int.mul_comm (2 ^ a)]
  omega
theorem fits_lt {c n : Int} (h : fits c n = true) : 0 ≤ wd c ∧ n < 2 ^ (wd c).toNat := by
  unfold fits at h
  exact of_decide_eq_true h
theorem putI_step {c : Int} {l : List Int} {i n : Int} (hw : 1 ≤ wd c) (h0 : 0 ≤ i) (h2 : i ≤ 1099511627776) (hn : 0 ≤ n) (hf : fits c n = true) (h : PutI c l i) : PutI c (putS c l i n) (i + 1) := by
  intro q
  unfold putS
  rw [if_neg (by omega)]
  have hu := used_at hw h0 h2
  rw [List.getD_eq_getElem?_getD, List.getElem?_set]
  by_cases hq : (i * wd c / 64).toNat = q
  · subst hq
    rw [if_pos rfl]
    have hq := h (i * wd c / 64).toNat
    rw [hu.1] at hq
    have := put_num hq.1 hq.2 hn (fits_lt hf).2
    by_cases hl : (i * wd c / 64).toNat < l.length
    · rw [if_pos hl, hu.2]
      simp only [Option.getD_some]
      omega
    · rw [if_neg hl]
      simp only [Option.getD_none]
      exact ⟨by decide, pow2_pos _⟩
  · rw [if_neg hq, ← List.getD_eq_getElem?_getD]
    have hm := pow_le_pow (used_mono c i q hw)
    have := h q
    omega
theorem putI_zero (c : Int) (k : Nat) : PutI c (List.replicate k 0) 0 := by
  intro q
  have : (List.replicate k (0 : Int)).getD q 0 = 0 := by
    rw [List.getD_eq_getElem?_getD, List.getElem?_replicate]
    split <;> rfl
  rw [this]
  exact ⟨by decide, pow2_pos _⟩
theorem fitsA_get {c : Int} {ns : List Int} (h : fitsA c ns = true) {i : Nat} (hi : i < ns.length) : fits c (ns.getD i 0) = true := by
  unfold fitsA at h
  rw [Bool.and_eq_true, List.all_eq_true] at h
  rw [List.getD_eq_getElem?_getD, List.getElem?_eq_getElem hi]
  exact h.2 _ (List.getElem_mem hi)
theorem putN_inv {c : Int} {ns : List Int} (hw : 1 ≤ wd c) (hn : okW ns) (hl : (ns.length : Int) ≤ 1099511627776) : ∀ (k : Nat), k ≤ ns.length → (∀ j, j < k → fits c (ns.getD j 0) = true) → PutI c (putN c ns k) k := by
  intro k
  induction k with
  | zero => intro _ _; rw [show ((0 : Nat) : Int) = 0 from rfl, putN_zero]; exact putI_zero c _
  | succ k ih =>
    intro hk hf
    rw [show ((k + 1 : Nat) : Int) = (k : Int) + 1 by omega, putN_succ c ns (by omega) (by omega)]
    have := hf k (by omega)
    exact putI_step hw (by omega) (by omega) (getD_word hn _).1 (by simpa using this) (ih (by omega) fun j hj => hf j (by omega))
theorem putI_okW {c : Int} {l : List Int} {i : Int} (h : PutI c l i) : okW l := by
  intro x hx
  obtain ⟨q, hq, rfl⟩ := List.getElem_of_mem hx
  have := h q
  rw [List.getD_eq_getElem?_getD, List.getElem?_eq_getElem hq, Option.getD_some] at this
  have hp := pow_le_pow (show usedB c i q ≤ 64 by unfold usedB; omega)
  have h64 : (2 : Int) ^ 64 = 18446744073709551616 := rfl
  omega
theorem putW_okW {c : Int} {ns : List Int} (hn : okW ns) (hl : (ns.length : Int) ≤ 1099511627776) (hf : fitsA c ns = true) : okW (putW c ns) := by
  by_cases hw : 1 ≤ wd c
  · rw [← putN_all]
    exact putI_okW (putN_inv hw hn hl ns.length (Nat.le_refl _) fun j hj => fitsA_get hf hj)
  · have : putW c ns = List.replicate (roomW c ns.length).toNat 0 := by
      unfold putW
      have : ∀ (a l : List Int) (i : Int), putGo c l i a = l := by
        intro a
        induction a with
        | nil => intro l i; rfl
        | cons n r ih => intro l i; rw [putGo, ih]; unfold putS; rw [if_pos (by omega)]
      exact this _ _ _
    rw [this]
    intro x hx
    have := (List.mem_replicate.1 hx).2
    omega
theorem putW_len (c : Int) (ns : List Int) : (putW c ns).length = (roomW c ns.length).toNat := by rw [← putN_all, putN_len]
end Go.AM.Ytcljdbpmjdgooaa

namespace Go.AM.Ytcljdbpmjdgooaa
open Go.AM Go.Proofs
def args102 : ArgL (Option Arena × Unit) := (.cons (aPo .arena) .nil)
def pre102 (a : Option Arena × Unit) : Prop := okB a.1
noncomputable def res102 (a : Option Arena × Unit) : V U := .c (.int .i64 ((segO a.1).length : Int))
noncomputable def spec102 : Fs U := fs args102 (fun a => [pre102 a]) res102
def args97 : ArgL (Option Arena × Int × Unit) := (.cons (aPo .arena) (.cons (aInt .i64) .nil))
def pre97 (a : Option Arena × Int × Unit) : Prop := okB a.1
noncomputable def res97 (a : Option Arena × Int × Unit) : V U := .c (.int .i64 ((segAt (segO a.1) a.2.1).length : Int))
noncomputable def spec97 : Fs U := fs args97 (fun a => [pre97 a]) res97
def args103 : ArgL (Option Arena × Int × Int × Int × Unit) := (.cons (aPo .arena) (.cons (aInt .i64) (.cons (aInt .i64) (.cons (aInt .i64) .nil))))
def pre103 (a : Option Arena × Int × Int × Int × Unit) : Prop := okB a.1
noncomputable def res103 (a : Option Arena × Int × Int × Int × Unit) : V U := .c (.bool (hasN (segO a.1) a.2.1 a.2.2.1 a.2.2.2.1))
noncomputable def spec103 : Fs U := fs args103 (fun a => [pre103 a]) res103
def args37 : ArgL (List Int × Unit) := (.cons (aSl .u64) .nil)
def pre37 (a : List Int × Unit) : Prop := a.1.length ≤ 17592186044416
noncomputable def res37 (a : List Int × Unit) : V U := .c (.slice (U := U) .u64 a.1 .unk)
noncomputable def spec37 : Fs U := fs args37 (fun a => [pre37 a]) res37
def args15 : ArgL (List (List Int) × Unit) := (.cons (aSl .words) .nil)
def pre15 (a : List (List Int) × Unit) : Prop := okSeg a.1
noncomputable def res15 (a : List (List Int) × Unit) : V U := .c (.po (U := U) .arena (some (Arena.mk a.1 0 0 0)))
noncomputable def spec15 : Fs U := fs args15 (fun a => [pre15 a]) res15
def args11 : ArgL (Option Arena × Unit) := (.cons (aPo .arena) .nil)
def pre11 (a : Option Arena × Unit) : Prop := okB a.1
noncomputable def res11 (a : Option Arena × Unit) : V U := .c (.slice (U := U) .words (segO a.1) .unk)
noncomputable def spec11 : Fs U := fs args11 (fun a => [pre11 a]) res11
noncomputable def know102 : List (FuncId × Fs U) := []
def lv102 : Lives U := fun i => match i with
  | 0 => ([(0, [])], [])
  | 1 => ([(0, []), (4, [])], [])
  | 2 => ([(2, [])], [])
  | 3 => ([(2, [])], [])
  | _ => ([], [])
noncomputable abbrev A102 (p : List Nat) := awp cfg (know know102) (drawOk cfg (know know102)) Try.f102.ntmps lv102 (cd Try.f102 p)
theorem vc102 (a : Option Arena) (Q : AExit → LSt U → Prop) (h : ((((Option.isNone a) = true → (Q .ret (⟨[(2, .c (.int .i64 0))], [], []⟩ : LSt U))) ∧ ((Option.isNone a) = false → (Option.isSome a = true) ∧ (Option.isSome a = true) ∧ (Q .ret (⟨[(2, .c (.int .i64 ((Arena.segs (Option.getD a (Arena.mk [] 0 0 0))).length : Int)))], [], []⟩ : LSt U)))))) :
    A102 [] (⟨[(0, .c (.po (U := U) .arena a))], [], []⟩ : LSt U) Q :=
  Eq.mpr (by kernel_rfl) h
def Body102 (a : Option Arena)  : Prop := awp cfg (know (know102)) (drawOk cfg (know (know102))) Try.f102.ntmps lv102 (cd Try.f102 []) (entry (args102.can (a, ())) []) (EndsQ cfg Try.f102.ntmps Try.f102.results.toList (res102 (a, ())) [])
theorem make102 (hb : ∀ (a : Option Arena) (_ : Unit), pre102 (a, ()) → Body102 a) : Contract Try.prog cfg 102 spec102 :=
  contract_flat (l := []) cfgOk rfl (trivial) lv102 Try.func102 rfl rfl 1 (fun _ => rfl) (by decide) (fun ⟨a, _⟩ => hb a ())
noncomputable def know97 : List (FuncId × Fs U) := [(102, spec102)]
def lv97 : Lives U := fun i => match i with
  | 0 => ([(0, []), (1, [])], [])
  | 1 => ([(0, []), (1, []), (12, [])], [])
  | 2 => ([(4, [])], [])
  | 3 => ([(4, [])], [])
  | _ => ([], [])
noncomputable abbrev A97 (p : List Nat) := awp cfg (know know97) (drawOk cfg (know know97)) Try.f97.ntmps lv97 (cd Try.f97 p)
theorem vc97 (a : Option Arena) (s : Int) (Q : AExit → LSt U → Prop) (h : ((Tr ((!(decide ((s : Int) < 0))) = true)) ∧ ((!(decide ((s : Int) < 0))) = true → pre102 (a, ())) ∧ (Tr ((!(decide ((s : Int) < 0))) = true)) ∧ (Tr ((!(decide ((s : Int) < 0))) = true)) ∧ (((decide ((s : Int) < 0)) = false → (!(decide ((s : Int) < 0))) = true)) ∧ (((bif (decide ((s : Int) < 0)) then true else (decide ((((segO a).length : Int) : Int) ≤ s))) = true → (Q .ret (⟨[(4, .c (.int .i64 0))], [], []⟩ : LSt U))) ∧ ((bif (decide ((s : Int) < 0)) then true else (decide ((((segO a).length : Int) : Int) ≤ s))) = false → (Option.isSome a = true) ∧ (Option.isSome a = true) ∧ ((0 : Int) ≤ s ∧ s < ((Arena.segs (Option.getD a (Arena.mk [] 0 0 0))).length : Int)) ∧ (Q .ret (⟨[(4, .c (.int .i64 ((List.getD (Arena.segs (Option.getD a (Arena.mk [] 0 0 0))) (Int.toNat s) ([] : List Int)).length : Int)))], [], []⟩ : LSt U)))))) :
    A97 [] (⟨[(0, .c (.po (U := U) .arena a)), (1, .c (.int .i64 s))], [], []⟩ : LSt U) Q :=
  Eq.mpr (by kernel_rfl) h
def Body97 (a : Option Arena) (s : Int)  : Prop := awp cfg (know (know97)) (drawOk cfg (know (know97))) Try.f97.ntmps lv97 (cd Try.f97 []) (entry (args97.can (a, s, ())) []) (EndsQ cfg Try.f97.ntmps Try.f97.results.toList (res97 (a, s, ())) [])
theorem make97 (c102 : Contract Try.prog cfg 102 spec102) (hb : ∀ (a : Option Arena) (s : Int) (_ : Unit), pre97 (a, s, ()) → Body97 a s) : Contract Try.prog cfg 97 spec97 :=
  contract_flat (l := [(102, spec102)]) cfgOk rfl (⟨c102, trivial⟩) lv97 Try.func97 rfl rfl 2 (fun _ => rfl) (by decide) (fun ⟨a, s, _⟩ => hb a s ())
noncomputable def know103 : List (FuncId × Fs U) := [(102, spec102), (97, spec97)]
def lv103 : Lives U := fun i => match i with
  | 0 => ([(0, []), (1, []), (2, []), (3, [])], [])
  | 1 => ([(0, []), (1, []), (2, []), (3, []), (9, [])], [])
  | 2 => ([(8, [])], [])
  | _ => ([], [])
noncomputable abbrev A103 (p : List Nat) := awp cfg (know know103) (drawOk cfg (know know103)) Try.f103.ntmps lv103 (cd Try.f103 p)
theorem vc103 (a : Option Arena) (s : Int) (at_ : Int) (n : Int) (Q : AExit → LSt U → Prop) (h : ((pre97 (a, s, ())) ∧ ((Tr ((decide ((0 : Int) ≤ s)) = true)) ∧ ((decide ((0 : Int) ≤ s)) = true → pre102 (a, ())) ∧ (Tr ((decide ((0 : Int) ≤ s)) = true)) ∧ (Tr ((decide ((0 : Int) ≤ s)) = true)) ∧ ((Tr ((decide ((0 : Int) ≤ s)) = true))) ∧ (Tr ((bif (decide ((0 : Int) ≤ s)) then (decide ((s : Int) < ((segO a).length : Int))) else false) = true)) ∧ ((Tr ((bif (decide ((0 : Int) ≤ s)) then (decide ((s : Int) < ((segO a).length : Int))) else false) = true))) ∧ (Tr ((bif (bif (decide ((0 : Int) ≤ s)) then (decide ((s : Int) < ((segO a).length : Int))) else false) then (decide ((0 : Int) ≤ at_)) else false) = true)) ∧ ((Tr ((bif (bif (decide ((0 : Int) ≤ s)) then (decide ((s : Int) < ((segO a).length : Int))) else false) then (decide ((0 : Int) ≤ at_)) else false) = true))) ∧ (Tr ((bif (bif (bif (decide ((0 : Int) ≤ s)) then (decide ((s : Int) < ((segO a).length : Int))) else false) then (decide ((0 : Int) ≤ at_)) else false) then (decide ((0 : Int) ≤ n)) else false) = true)) ∧ (Tr ((bif (bif (bif (decide ((0 : Int) ≤ s)) then (decide ((s : Int) < ((segO a).length : Int))) else false) then (decide ((0 : Int) ≤ at_)) else false) then (decide ((0 : Int) ≤ n)) else false) = true)) ∧ ((Tr ((bif (bif (bif (decide ((0 : Int) ≤ s)) then (decide ((s : Int) < ((segO a).length : Int))) else false) then (decide ((0 : Int) ≤ at_)) else false) then (decide ((0 : Int) ≤ n)) else false) = true))) ∧ (Tr ((bif (bif (bif (bif (decide ((0 : Int) ≤ s)) then (decide ((s : Int) < ((segO a).length : Int))) else false) then (decide ((0 : Int) ≤ at_)) else false) then (decide ((0 : Int) ≤ n)) else false) then (decide ((n : Int) ≤ ((segAt (segO a) s).length : Int))) else false) = true)) ∧ (Tr ((bif (bif (bif (bif (decide ((0 : Int) ≤ s)) then (decide ((s : Int) < ((segO a).length : Int))) else false) then (decide ((0 : Int) ≤ at_)) else false) then (decide ((0 : Int) ≤ n)) else false) then (decide ((n : Int) ≤ ((segAt (segO a) s).length : Int))) else false) = true)) ∧ ((bif (bif (bif (bif (decide ((0 : Int) ≤ s)) then (decide ((s : Int) < ((segO a).length : Int))) else false) then (decide ((0 : Int) ≤ at_)) else false) then (decide ((0 : Int) ≤ n)) else false) then (decide ((n : Int) ≤ ((segAt (segO a) s).length : Int))) else false) = true → InR ((((segAt (segO a) s).length : Int) : Int) - n)) ∧ (Tr ((bif (bif (bif (bif (decide ((0 : Int) ≤ s)) then (decide ((s : Int) < ((segO a).length : Int))) else false) then (decide ((0 : Int) ≤ at_)) else false) then (decide ((0 : Int) ≤ n)) else false) then (decide ((n : Int) ≤ ((segAt (segO a) s).length : Int))) else false) = true)) ∧ (Tr ((bif (bif (bif (bif (decide ((0 : Int) ≤ s)) then (decide ((s : Int) < ((segO a).length : Int))) else false) then (decide ((0 : Int) ≤ at_)) else false) then (decide ((0 : Int) ≤ n)) else false) then (decide ((n : Int) ≤ ((segAt (segO a) s).length : Int))) else false) = true)) ∧ ((Tr ((bif (bif (bif (bif (decide ((0 : Int) ≤ s)) then (decide ((s : Int) < ((segO a).length : Int))) else false) then (decide ((0 : Int) ≤ at_)) else false) then (decide ((0 : Int) ≤ n)) else false) then (decide ((n : Int) ≤ ((segAt (segO a) s).length : Int))) else false) = true))) ∧ (Q .ret (⟨[(8, .c (.bool (bif (bif (bif (bif (bif (decide ((0 : Int) ≤ s)) then (decide ((s : Int) < ((segO a).length : Int))) else false) then (decide ((0 : Int) ≤ at_)) else false) then (decide ((0 : Int) ≤ n)) else false) then (decide ((n : Int) ≤ ((segAt (segO a) s).length : Int))) else false) then (decide ((at_ : Int) ≤ ((((segAt (segO a) s).length : Int) : Int) - n))) else false)))], [], []⟩ : LSt U))))) :
    A103 [] (⟨[(0, .c (.po (U := U) .arena a)), (1, .c (.int .i64 s)), (2, .c (.int .i64 at_)), (3, .c (.int .i64 n))], [], []⟩ : LSt U) Q :=
  Eq.mpr (by kernel_rfl) h
def Body103 (a : Option Arena) (s : Int) (at_ : Int) (n : Int)  : Prop := awp cfg (know (know103)) (drawOk cfg (know (know103))) Try.f103.ntmps lv103 (cd Try.f103 []) (entry (args103.can (a, s, at_, n, ())) []) (EndsQ cfg Try.f103.ntmps Try.f103.results.toList (res103 (a, s, at_, n, ())) [])
theorem make103 (c102 : Contract Try.prog cfg 102 spec102) (c97 : Contract Try.prog cfg 97 spec97) (hb : ∀ (a : Option Arena) (s : Int) (at_ : Int) (n : Int) (_ : Unit), pre103 (a, s, at_, n, ()) → Body103 a s at_ n) : Contract Try.prog cfg 103 spec103 :=
  contract_flat (l := [(102, spec102), (97, spec97)]) cfgOk rfl (⟨c102, c97, trivial⟩) lv103 Try.func103 rfl rfl 4 (fun _ => rfl) (by decide) (fun ⟨a, s, at_, n, _⟩ => hb a s at_ n ())
noncomputable def know37 : List (FuncId × Fs U) := []
def lv37 : Lives U := fun i => match i with
  | 0 => ([(0, [])], [])
  | 1 => ([(0, []), (4, [])], [])
  | 2 => ([(2, [])], [])
  | 3 => ([(2, [])], [])
  | _ => ([], [])
noncomputable abbrev A37 (p : List Nat) := awp cfg (know know37) (drawOk cfg (know know37)) Try.f37.ntmps lv37 (cd Try.f37 p)
theorem vc37 (l : List Int) (Q : AExit → LSt U → Prop) (h : ((((l = []) → (Q .ret (⟨[(2, .c (.nils))], [], []⟩ : LSt U))) ∧ ((True) → ((([] : List Int).length + l.length) * 8 ≤ 140737488355328) ∧ (Q .ret (⟨[(2, .c (.slice (U := U) .u64 (([] : List Int) ++ l) (.own (.e 2 0))))], [], []⟩ : LSt U)))))) :
    A37 [] (⟨[(0, .c (.slice (U := U) .u64 l .unk))], [], []⟩ : LSt U) Q :=
  Eq.mpr (by kernel_rfl) h
def Body37 (l : List Int)  : Prop := awp cfg (know (know37)) (drawOk cfg (know (know37))) Try.f37.ntmps lv37 (cd Try.f37 []) (entry (args37.can (l, ())) []) (EndsQ cfg Try.f37.ntmps Try.f37.results.toList (res37 (l, ())) [])
theorem make37 (hb : ∀ (l : List Int) (_ : Unit), pre37 (l, ()) → Body37 l) : Contract Try.prog cfg 37 spec37 :=
  contract_flat (l := []) cfgOk rfl (trivial) lv37 Try.func37 rfl rfl 1 (fun _ => rfl) (by decide) (fun ⟨l, _⟩ => hb l ())
noncomputable def know15 : List (FuncId × Fs U) := [(37, spec37)]
def lv15 : Lives U := fun i => match i with
  | 0 => ([(0, [])], [])
  | 1 => ([(0, []), (3, [])], [((.loc 7), [])])
  | 2 => ([(3, []), (8, []), (9, []), (10, [])], [((.loc 7), [.own .words])])
  | 3 => ([(3, []), (8, []), (9, []), (10, []), (11, [])], [((.loc 7), [])])
  | 4 => ([(3, []), (5, []), (8, []), (9, []), (10, [])], [((.loc 7), [])])
  | 5 => ([(3, []), (8, []), (9, []), (10, [])], [((.loc 7), [])])
  | 6 => ([(3, []), (8, []), (9, []), (10, [])], [((.loc 7), [.own .words])])
  | 7 => ([(2, [.pt .arena])], [((.loc 7), [])])
  | _ => ([], [])
noncomputable def head15_0 (l : List (List Int)) (x10 : Int) (ml7_0 : List (List Int)) : LSt U := (⟨[(3, .ptr (.loc 7) 0), (8, .c (.slice (U := U) .words l .unk)), (9, .c (.int .i64 (l.length : Int))), (10, .c (.int .i64 x10))], [((.loc 7), [.slice (U := U) .words ml7_0 (.own (.l 7 0)), .int .i64 0, .int .i64 0, .int .i64 0])], []⟩ : LSt U)
noncomputable abbrev A15 (p : List Nat) := awp cfg (know know15) (drawOk cfg (know know15)) Try.f15.ntmps lv15 (cd Try.f15 p)
noncomputable abbrev S15 (p : List Nat) := seqK cfg (know know15) (drawOk cfg (know know15)) Try.f15.ntmps lv15 (cd Try.f15 p)
theorem vc15 (l : List (List Int)) (Q : AExit → LSt U → Prop) (h : (((LoopWp (A15 [1, 1, 0, 1, 0, 0]) (head15_0 l 0 ([])) (AExit.inBlock 0 (S15 [1, 1, 1] Q)))))) :
    A15 [] (⟨[(0, .c (.slice (U := U) .words l .unk))], [], []⟩ : LSt U) Q :=
  Eq.mpr (by kernel_rfl) h
theorem vc15_l0 (l : List (List Int)) (x10 : Int) (ml7_0 : List (List Int)) (N0 : LSt U → Prop) (Q : AExit → LSt U → Prop) (h : (((decide ((x10 : Int) < (l.length : Int))) = true → ((0 : Int) ≤ x10 ∧ x10 < (l.length : Int)) ∧ ((pre37 ((List.getD l (Int.toNat x10) ([] : List Int)), ())) ∧ ((ml7_0.length + ([(List.getD l (Int.toNat x10) ([] : List Int))]).length) * 24 ≤ 140737488355328) ∧ ((InR ((x10 : Int) + 1)) ∧ (N0 (head15_0 l ((x10 : Int) + 1) (ml7_0 ++ ([(List.getD l (Int.toNat x10) ([] : List Int))]))))))) ∧ ((decide ((x10 : Int) < (l.length : Int))) = false → (Q .ret (⟨[(2, .c (.po (U := U) .arena (some (Arena.mk ml7_0 0 0 0))))], [], []⟩ : LSt U))))) :
    A15 [1, 1, 0, 1, 0, 0] (head15_0 l x10 ml7_0) (AExit.then N0 (AExit.inBlock 0 (S15 [1, 1, 1] Q))) :=
  Eq.mpr (by kernel_rfl) h
def Body15 (l : List (List Int))  : Prop := awp cfg (know (know15)) (drawOk cfg (know (know15))) Try.f15.ntmps lv15 (cd Try.f15 []) (entry (args15.can (l, ())) []) (EndsQ cfg Try.f15.ntmps Try.f15.results.toList (res15 (l, ())) [])
theorem make15 (c37 : Contract Try.prog cfg 37 spec37) (hb : ∀ (l : List (List Int)) (_ : Unit), pre15 (l, ()) → Body15 l) : Contract Try.prog cfg 15 spec15 :=
  contract_flat (l := [(37, spec37)]) cfgOk rfl (⟨c37, trivial⟩) lv15 Try.func15 rfl rfl 1 (fun _ => rfl) (by decide) (fun ⟨l, _⟩ => hb l ())
noncomputable def know11 : List (FuncId × Fs U) := [(15, spec15)]
def lv11 : Lives U := fun i => match i with
  | 0 => ([(0, [])], [])
  | 1 => ([(0, []), (4, [])], [])
  | 2 => ([(2, [])], [])
  | 3 => ([(2, [])], [])
  | _ => ([], [])
noncomputable abbrev A11 (p : List Nat) := awp cfg (know know11) (drawOk cfg (know know11)) Try.f11.ntmps lv11 (cd Try.f11 p)
theorem vc11 (a : Option Arena) (Q : AExit → LSt U → Prop) (h : ((((Option.isNone a) = true → (Q .ret (⟨[(2, .c (.nils))], [], []⟩ : LSt U))) ∧ ((Option.isNone a) = false → (Option.isSome a = true) ∧ (Option.isSome a = true) ∧ (pre15 ((Arena.segs (Option.getD a (Arena.mk [] 0 0 0))), ())) ∧ (Option.isSome (some (Arena.mk (Arena.segs (Option.getD a (Arena.mk [] 0 0 0))) 0 0 0)) = true) ∧ (Option.isSome (some (Arena.mk (Arena.segs (Option.getD a (Arena.mk [] 0 0 0))) 0 0 0)) = true) ∧ (Q .ret (⟨[(2, .c (.slice (U := U) .words (Arena.segs (Option.getD (some (Arena.mk (Arena.segs (Option.getD a (Arena.mk [] 0 0 0))) 0 0 0)) (Arena.mk [] 0 0 0))) .unk))], [], []⟩ : LSt U)))))) :
    A11 [] (⟨[(0, .c (.po (U := U) .arena a))], [], []⟩ : LSt U) Q :=
  Eq.mpr (by kernel_rfl) h
def Body11 (a : Option Arena)  : Prop := awp cfg (know (know11)) (drawOk cfg (know (know11))) Try.f11.ntmps lv11 (cd Try.f11 []) (entry (args11.can (a, ())) []) (EndsQ cfg Try.f11.ntmps Try.f11.results.toList (res11 (a, ())) [])
theorem make11 (c15 : Contract Try.prog cfg 15 spec15) (hb : ∀ (a : Option Arena) (_ : Unit), pre11 (a, ()) → Body11 a) : Contract Try.prog cfg 11 spec11 :=
  contract_flat (l := [(15, spec15)]) cfgOk rfl (⟨c15, trivial⟩) lv11 Try.func11 rfl rfl 1 (fun _ => rfl) (by decide) (fun ⟨a, _⟩ => hb a ())
end Go.AM.Ytcljdbpmjdgooaa

namespace Go.AM.Ytcljdbpmjdgooaa
open Go.AM Go.Proofs
theorem segO_some {a : Option Arena} (h : a.isSome = true) : (a.getD (Arena.mk [] 0 0 0)).segs = segO a := by
  cases a with
  | none => cases h
  | some x => rfl
theorem c102 : Contract Try.prog cfg 102 spec102 := by
  refine make102 ?_
  intro a _ hp
  refine vc102 _ _ ?_
  (simp only [vcT, vcS])
  refine ⟨fun h => ends_int rfl ?_, fun h => ?_⟩
  · show (0 : Int) = ((segO a).length : Int)
    cases a with
    | none => rfl
    | some x => cases h
  · have hs : a.isSome = true := by
      cases a with
      | none => cases h
      | some x => rfl
    refine ⟨hs, hs, ends_int rfl ?_⟩
    rw [segO_some hs]
theorem some_of_len {a : Option Arena} {s : Int} (h0 : 0 ≤ s) (h : s < ((segO a).length : Int)) : a.isSome = true := by
  cases a with
  | none => simp [segO] at h; omega
  | some x => rfl
theorem segAt_in {l : List (List Int)} {s : Int} (h : 0 ≤ s) : segAt l s = l.getD s.toNat [] := by unfold segAt; rw [if_neg (by omega)]
theorem segAt_out {l : List (List Int)} {s : Int} (h : s < 0 ∨ (l.length : Int) ≤ s) : segAt l s = [] := by
  unfold segAt
  split
  · rfl
  · rw [List.getD_eq_getElem?_getD, List.getElem?_eq_none (by omega)]; rfl
theorem c97 : Contract Try.prog cfg 97 spec97 := by
  refine make97 c102 ?_
  intro a s _ hp
  refine vc97 _ _ _ ?_
  (simp only [vcT, vcS])
  refine ⟨fun _ => hp, fun h => ends_int rfl ?_, fun h => ?_⟩
  · show (0 : Int) = ((segAt (segO a) s).length : Int)
    rw [segAt_out h]; rfl
  · have hs := some_of_len (a := a) (s := s) (by omega) (by omega)
    rw [segO_some hs]
    refine ⟨hs, hs, by omega, ends_int rfl ?_⟩
    show _ = ((segAt (segO a) s).length : Int)
    rw [segAt_in (by omega)]
theorem c103 : Contract Try.prog cfg 103 spec103 := by
  refine make103 c102 c97 ?_
  intro a s x n _ hp
  refine vc103 _ _ _ _ _ ?_
  have hl := (okSeg_at hp s).1
  (simp only [vcT, vcS])
  refine ⟨hp, fun _ => hp, fun h => by dsimp only at hl; ((unfold InR; omega)), ends_bool rfl ?_⟩
  rw [Bool.eq_iff_iff]
  show _ ↔ hasN (segO a) s x n = true
  rw [hasN_iff]
  (simp only [vcT, vcS])
  omega
theorem c37 : Contract Try.prog cfg 37 spec37 := by
  refine make37 ?_
  intro l _ hp
  simp only [pre37] at hp
  refine vc37 _ _ ?_
  (simp only [vcT, vcS])
  refine ⟨fun h => ?_, by simp; omega, ?_⟩
  · subst h; (repeat' (first | exact trivial | exact rfl | apply And.intro))
  · rw [List.nil_append]; (repeat' (first | exact trivial | exact rfl | apply And.intro))
theorem c15 : Contract Try.prog cfg 15 spec15 := by
  refine make15 c37 ?_
  intro l _ hp
  simp only [pre15] at hp
  have hl := hp.1
  refine vc15 _ _ ?_
  refine loop_rule (ι := Int × List (List Int)) (fun p => head15_0 l p.1 p.2) (fun p => 0 ≤ p.1 ∧ p.1 ≤ l.length ∧ p.2.length = p.1 ∧ p.2 ++ l.drop p.1.toNat = l) (fun p => (l.length - p.1).toNat) (0, []) rfl ⟨by simp, by dsimp only; omega, by simp, by simp⟩ ?_
  rintro ⟨i, o⟩ ⟨h1, h2, h3, h4⟩
  dsimp only at h1 h2 h3 h4
  refine vc15_l0 _ _ _ _ _ ?_
  (simp only [vcT, vcS])
  refine ⟨fun hi => ?_, fun hi => ?_⟩
  · have hm := hp.2 _ (mem_getD (l := l) (i := i.toNat) (by omega) [])
    refine ⟨by omega, hm.1, by simp; omega, by ((unfold InR; omega)), (i + 1, o ++ [l.getD i.toNat []]), rfl, ⟨by dsimp only; omega, by dsimp only; omega, by simp; omega, ?_⟩, by dsimp only; omega⟩
    dsimp only
    rw [List.append_assoc, List.singleton_append, ← dropI h1 hi [], h4]
  · rw [List.drop_of_length_le (by omega), List.append_nil] at h4
    subst h4
    (repeat' (first | exact trivial | exact rfl | apply And.intro))
theorem c11 : Contract Try.prog cfg 11 spec11 := by
  refine make11 c15 ?_
  intro a _ hp
  refine vc11 _ _ ?_
  (simp only [vcT, vcS])
  refine ⟨fun h => ?_, fun h => ?_⟩
  · refine ends_eq (r' := .c (.slice (U := U) .words [] .unk)) ?_ (by (repeat' (first | exact trivial | exact rfl | apply And.intro)))
    cases a with
    | none => rfl
    | some x => cases h
  · have hs : a.isSome = true := by
      cases a with
      | none => cases h
      | some x => rfl
    rw [segO_some hs]
    refine ⟨hs, hs, hp, rfl, rfl, ?_⟩
    (repeat' (first | exact trivial | exact rfl | apply And.intro))
end Go.AM.Ytcljdbpmjdgooaa

namespace Go.AM.Ytcljdbpmjdgooaa
open Go.AM Go.Proofs
def args29 : ArgL (List Int × List Int × Unit) := (.cons (aSl .u64) (.cons (aSl .u64) .nil))
def pre29 (a : List Int × List Int × Unit) : Prop := a.1.length ≤ 17592186044416
noncomputable def res29 (a : List Int × List Int × Unit) : V U := .c (.bool (decide (a.1 = a.2.1)))
noncomputable def spec29 : Fs U := fs args29 (fun a => [pre29 a]) res29
def args10 : ArgL (List (List Int) × List (List Int) × Unit) := (.cons (aSl .words) (.cons (aSl .words) .nil))
def pre10 (a : List (List Int) × List (List Int) × Unit) : Prop := okSeg a.1
noncomputable def res10 (a : List (List Int) × List (List Int) × Unit) : V U := .c (.bool (decide (a.1 = a.2.1)))
noncomputable def spec10 : Fs U := fs args10 (fun a => [pre10 a]) res10
noncomputable def know29 : List (FuncId × Fs U) := []
def lv29 : Lives U := fun i => match i with
  | 0 => ([(0, []), (1, [])], [])
  | 1 => ([(0, []), (1, []), (10, [])], [])
  | 2 => ([(4, [])], [])
  | 3 => ([(0, []), (1, []), (5, [])], [])
  | 4 => ([(0, []), (1, []), (5, []), (14, [])], [])
  | 5 => ([(0, []), (1, []), (5, [])], [])
  | 6 => ([(0, []), (1, []), (5, []), (25, [])], [])
  | 7 => ([(4, [])], [])
  | 8 => ([(4, [])], [])
  | _ => ([], [])
noncomputable def head29_0 (a : List Int) (b : List Int) (x5 : Int) : LSt U := (⟨[(0, .c (.slice (U := U) .u64 a .unk)), (1, .c (.slice (U := U) .u64 b .unk)), (5, .c (.int .i64 x5))], [], []⟩ : LSt U)
noncomputable abbrev A29 (p : List Nat) := awp cfg (know know29) (drawOk cfg (know know29)) Try.f29.ntmps lv29 (cd Try.f29 p)
noncomputable abbrev S29 (p : List Nat) := seqK cfg (know know29) (drawOk cfg (know know29)) Try.f29.ntmps lv29 (cd Try.f29 p)
theorem vc29 (a : List Int) (b : List Int) (Q : AExit → LSt U → Prop) (h : ((((((a.length : Int) : Int) != (b.length : Int)) = true → (Q .ret (⟨[(4, .c (.bool false))], [], []⟩ : LSt U))) ∧ ((((a.length : Int) : Int) != (b.length : Int)) = false → (LoopWp (A29 [1, 1, 0, 1, 0, 0]) (head29_0 a b 0) (AExit.inBlock 0 (S29 [1, 1, 1] Q))))))) :
    A29 [] (⟨[(0, .c (.slice (U := U) .u64 a .unk)), (1, .c (.slice (U := U) .u64 b .unk))], [], []⟩ : LSt U) Q :=
  Eq.mpr (by kernel_rfl) h
theorem vc29_l0 (a : List Int) (b : List Int) (x5 : Int) (N0 : LSt U → Prop) (Q : AExit → LSt U → Prop) (h : (((decide ((x5 : Int) < (a.length : Int))) = true → ((0 : Int) ≤ x5 ∧ x5 < (a.length : Int)) ∧ ((0 : Int) ≤ x5 ∧ x5 < (b.length : Int)) ∧ (((((List.getD a (Int.toNat x5) (0 : Int)) : Int) != (List.getD b (Int.toNat x5) (0 : Int))) = true → (Q .ret (⟨[(4, .c (.bool false))], [], []⟩ : LSt U))) ∧ ((((List.getD a (Int.toNat x5) (0 : Int)) : Int) != (List.getD b (Int.toNat x5) (0 : Int))) = false → (InR ((x5 : Int) + 1)) ∧ (N0 (head29_0 a b ((x5 : Int) + 1)))))) ∧ ((decide ((x5 : Int) < (a.length : Int))) = false → (Q .ret (⟨[(4, .c (.bool true))], [], []⟩ : LSt U))))) :
    A29 [1, 1, 0, 1, 0, 0] (head29_0 a b x5) (AExit.then N0 (AExit.inBlock 0 (S29 [1, 1, 1] Q))) :=
  Eq.mpr (by kernel_rfl) h
def Body29 (a : List Int) (b : List Int)  : Prop := awp cfg (know (know29)) (drawOk cfg (know (know29))) Try.f29.ntmps lv29 (cd Try.f29 []) (entry (args29.can (a, b, ())) []) (EndsQ cfg Try.f29.ntmps Try.f29.results.toList (res29 (a, b, ())) [])
theorem make29 (hb : ∀ (a : List Int) (b : List Int) (_ : Unit), pre29 (a, b, ()) → Body29 a b) : Contract Try.prog cfg 29 spec29 :=
  contract_flat (l := []) cfgOk rfl (trivial) lv29 Try.func29 rfl rfl 2 (fun _ => rfl) (by decide) (fun ⟨a, b, _⟩ => hb a b ())
noncomputable def know10 : List (FuncId × Fs U) := [(29, spec29)]
def lv10 : Lives U := fun i => match i with
  | 0 => ([(0, []), (1, [])], [])
  | 1 => ([(0, []), (1, []), (10, [])], [])
  | 2 => ([(4, [])], [])
  | 3 => ([(0, []), (1, []), (5, [])], [])
  | 4 => ([(0, []), (1, []), (5, []), (14, [])], [])
  | 5 => ([(0, []), (1, []), (5, [])], [])
  | 6 => ([(0, []), (1, []), (5, []), (26, [])], [])
  | 7 => ([(4, [])], [])
  | 8 => ([(4, [])], [])
  | _ => ([], [])
noncomputable def head10_0 (a : List (List Int)) (b : List (List Int)) (x5 : Int) : LSt U := (⟨[(0, .c (.slice (U := U) .words a .unk)), (1, .c (.slice (U := U) .words b .unk)), (5, .c (.int .i64 x5))], [], []⟩ : LSt U)
noncomputable abbrev A10 (p : List Nat) := awp cfg (know know10) (drawOk cfg (know know10)) Try.f10.ntmps lv10 (cd Try.f10 p)
noncomputable abbrev S10 (p : List Nat) := seqK cfg (know know10) (drawOk cfg (know know10)) Try.f10.ntmps lv10 (cd Try.f10 p)
theorem vc10 (a : List (List Int)) (b : List (List Int)) (Q : AExit → LSt U → Prop) (h : ((((((a.length : Int) : Int) != (b.length : Int)) = true → (Q .ret (⟨[(4, .c (.bool false))], [], []⟩ : LSt U))) ∧ ((((a.length : Int) : Int) != (b.length : Int)) = false → (LoopWp (A10 [1, 1, 0, 1, 0, 0]) (head10_0 a b 0) (AExit.inBlock 0 (S10 [1, 1, 1] Q))))))) :
    A10 [] (⟨[(0, .c (.slice (U := U) .words a .unk)), (1, .c (.slice (U := U) .words b .unk))], [], []⟩ : LSt U) Q :=
  Eq.mpr (by kernel_rfl) h
theorem vc10_l0 (a : List (List Int)) (b : List (List Int)) (x5 : Int) (N0 : LSt U → Prop) (Q : AExit → LSt U → Prop) (h : (((decide ((x5 : Int) < (a.length : Int))) = true → ((0 : Int) ≤ x5 ∧ x5 < (a.length : Int)) ∧ ((0 : Int) ≤ x5 ∧ x5 < (b.length : Int)) ∧ (pre29 ((List.getD a (Int.toNat x5) ([] : List Int)), (List.getD b (Int.toNat x5) ([] : List Int)), ())) ∧ (((!(decide ((List.getD a (Int.toNat x5) ([] : List Int)) = (List.getD b (Int.toNat x5) ([] : List Int))))) = true → (Q .ret (⟨[(4, .c (.bool false))], [], []⟩ : LSt U))) ∧ ((!(decide ((List.getD a (Int.toNat x5) ([] : List Int)) = (List.getD b (Int.toNat x5) ([] : List Int))))) = false → (InR ((x5 : Int) + 1)) ∧ (N0 (head10_0 a b ((x5 : Int) + 1)))))) ∧ ((decide ((x5 : Int) < (a.length : Int))) = false → (Q .ret (⟨[(4, .c (.bool true))], [], []⟩ : LSt U))))) :
    A10 [1, 1, 0, 1, 0, 0] (head10_0 a b x5) (AExit.then N0 (AExit.inBlock 0 (S10 [1, 1, 1] Q))) :=
  Eq.mpr (by kernel_rfl) h
def Body10 (a : List (List Int)) (b : List (List Int))  : Prop := awp cfg (know (know10)) (drawOk cfg (know (know10))) Try.f10.ntmps lv10 (cd Try.f10 []) (entry (args10.can (a, b, ())) []) (EndsQ cfg Try.f10.ntmps Try.f10.results.toList (res10 (a, b, ())) [])
theorem make10 (c29 : Contract Try.prog cfg 29 spec29) (hb : ∀ (a : List (List Int)) (b : List (List Int)) (_ : Unit), pre10 (a, b, ()) → Body10 a b) : Contract Try.prog cfg 10 spec10 :=
  contract_flat (l := [(29, spec29)]) cfgOk rfl (⟨c29, trivial⟩) lv10 Try.func10 rfl rfl 2 (fun _ => rfl) (by decide) (fun ⟨a, b, _⟩ => hb a b ())
end Go.AM.Ytcljdbpmjdgooaa

namespace Go.AM.Ytcljdbpmjdgooaa
open Go.AM Go.Proofs
theorem eq_of_getD {α : Type} {a b : List α} (d : α) (hl : a.length = b.length) (h : ∀ j : Nat, j < a.length → a.getD j d = b.getD j d) : a = b := by
  refine List.ext_getElem hl fun j h1 h2 => ?_
  have := h j h1
  rwa [List.getD_eq_getElem?_getD, List.getD_eq_getElem?_getD, List.getElem?_eq_getElem h1, List.getElem?_eq_getElem h2] at this
theorem c29 : Contract Try.prog cfg 29 spec29 := by
  refine make29 ?_
  intro a b _ hp
  simp only [pre29] at hp
  refine vc29 _ _ _ ?_
  (simp only [vcT, vcS])
  refine ⟨fun h => ends_bool rfl (decide_eq_false fun e => h (by rw [show a = b from e])).symm, fun h => ?_⟩
  refine loop_rule (ι := Int) (fun i => head29_0 a b i) (fun i => 0 ≤ i ∧ i ≤ a.length ∧ ∀ j : Nat, j < i.toNat → a.getD j 0 = b.getD j 0) (fun i => (a.length - i).toNat) 0 rfl ⟨by simp, by omega, fun j hj => by simp at hj⟩ ?_
  rintro i ⟨h1, h2, h3⟩
  refine vc29_l0 _ _ _ _ _ ?_
  (simp only [vcT, vcS])
  refine ⟨fun hi => ⟨by omega, by omega, fun hn => ends_bool rfl ?_, fun he => ⟨by ((unfold InR; omega)), i + 1, rfl, ⟨by omega, by omega, fun j hj => ?_⟩, by omega⟩⟩, fun hi => ends_bool rfl ?_⟩
  · exact (decide_eq_false fun e => hn (by rw [show a = b from e])).symm
  · by_cases e : j < i.toNat
    · exact h3 j e
    · rw [show j = i.toNat by omega]; exact he
  · exact (decide_eq_true (eq_of_getD 0 (by omega) fun j hj => h3 j (by omega))).symm
theorem c10 : Contract Try.prog cfg 10 spec10 := by
  refine make10 c29 ?_
  intro a b _ hp
  simp only [pre10] at hp
  have hl := hp.1
  refine vc10 _ _ _ ?_
  (simp only [vcT, vcS])
  refine ⟨fun h => ends_bool rfl (decide_eq_false fun e => h (by rw [show a = b from e])).symm, fun h => ?_⟩
  refine loop_rule (ι := Int) (fun i => head10_0 a b i) (fun i => 0 ≤ i ∧ i ≤ a.length ∧ ∀ j : Nat, j < i.toNat → a.getD j [] = b.getD j []) (fun i => (a.length - i).toNat) 0 rfl ⟨by simp, by omega, fun j hj => by simp at hj⟩ ?_
  rintro i ⟨h1, h2, h3⟩
  refine vc10_l0 _ _ _ _ _ ?_
  (simp only [vcT, vcS])
  refine ⟨fun hi => ⟨by omega, by omega, (hp.2 _ (mem_getD (by omega) [])).1, fun hn => ends_bool rfl ?_, fun he => ⟨by ((unfold InR; omega)), i + 1, rfl, ⟨by omega, by omega, fun j hj => ?_⟩, by omega⟩⟩, fun hi => ends_bool rfl ?_⟩
  · exact (decide_eq_false fun e => hn (by rw [show a = b from e])).symm
  · by_cases e : j < i.toNat
    · exact h3 j e
    · rw [show j = i.toNat by omega]; exact he
  · exact (decide_eq_true (eq_of_getD [] (by omega) fun j hj => h3 j (by omega))).symm
end Go.AM.Ytcljdbpmjdgooaa

namespace Go.AM.Ytcljdbpmjdgooaa
open Go.AM Go.Proofs
def args86 : ArgL (Int × Unit) := (.cons (aInt .i64) .nil)
def pre86 (a : Int × Unit) : Prop := True
noncomputable def res86 (a : Int × Unit) : V U := .c (.bool (decide (2 ≤ a.1 ∧ a.1 ≤ 7)))
noncomputable def spec86 : Fs U := fs args86 (fun a => [pre86 a]) res86
noncomputable def know86 : List (FuncId × Fs U) := []
def lv86 : Lives U := fun i => match i with
  | 0 => ([(0, [])], [])
  | 1 => ([(2, [])], [])
  | _ => ([], [])
noncomputable abbrev A86 (p : List Nat) := awp cfg (know know86) (drawOk cfg (know know86)) Try.f86.ntmps lv86 (cd Try.f86 p)
theorem vc86 (k : Int) (Q : AExit → LSt U → Prop) (h : ((Tr ((decide ((2 : Int) ≤ k)) = true)) ∧ ((Tr ((decide ((2 : Int) ≤ k)) = true))) ∧ (Q .ret (⟨[(2, .c (.bool (bif (decide ((2 : Int) ≤ k)) then (decide ((k : Int) ≤ 7)) else false)))], [], []⟩ : LSt U)))) :
    A86 [] (⟨[(0, .c (.int .i64 k))], [], []⟩ : LSt U) Q :=
  Eq.mpr (by kernel_rfl) h
def Body86 (k : Int)  : Prop := awp cfg (know (know86)) (drawOk cfg (know (know86))) Try.f86.ntmps lv86 (cd Try.f86 []) (entry (args86.can (k, ())) []) (EndsQ cfg Try.f86.ntmps Try.f86.results.toList (res86 (k, ())) [])
theorem make86 (hb : ∀ (k : Int) (_ : Unit), pre86 (k, ()) → Body86 k) : Contract Try.prog cfg 86 spec86 :=
  contract_flat (l := []) cfgOk rfl (trivial) lv86 Try.func86 rfl rfl 1 (fun _ => rfl) (by decide) (fun ⟨k, _⟩ => hb k ())
end Go.AM.Ytcljdbpmjdgooaa

namespace Go.AM.Ytcljdbpmjdgooaa
open Go.AM Go.Proofs
theorem c86 : Contract Try.prog cfg 86 spec86 := by
  refine make86 ?_
  intro k _ _
  refine vc86 _ _ ?_
  (simp only [vcT, vcS])
  refine ends_bool rfl ?_
  rw [Bool.eq_iff_iff]
  (simp only [vcT, vcS])
end Go.AM.Ytcljdbpmjdgooaa

namespace Go.AM.Ytcljdbpmjdgooaa
open Go.AM Go.Proofs
def args19 : ArgL (Tree × Int × Int × Unit) := (.cons (aEl .tree) (.cons (aInt .i64) (.cons (aInt .i64) .nil)))
def pre19 (a : Tree × Int × Int × Unit) : Prop := small a.1 ∧ 0 ≤ a.2.1 ∧ a.2.1 ≤ 4611686018427387904 ∧ -1 ≤ a.2.2.1 ∧ a.2.2.1 ≤ 4611686018427387904
def mu19 (a : Tree × Int × Int × Unit) : Nat := mass a.1
noncomputable def res19 (a : Tree × Int × Int × Unit) : V U := .c (.int .i64 (shallow a.1 a.2.1 a.2.2.1))
noncomputable def spec19 : Fs U := fs args19 (fun a => [pre19 a]) res19
def args6 : ArgL (Tree × Unit) := (.cons (aEl .tree) .nil)
def pre6 (a : Tree × Unit) : Prop := small a.1
noncomputable def res6 (a : Tree × Unit) : V U := .c (.bool (decide (0 ≤ shallow a.1 80 3000)))
noncomputable def spec6 : Fs U := fs args6 (fun a => [pre6 a]) res6
def args59 : ArgL (Tree × Int × Unit) := (.cons (aEl .tree) (.cons (aInt .i64) .nil))
def pre59 (a : Tree × Int × Unit) : Prop := True
noncomputable def res59 (a : Tree × Int × Unit) : V U := .c (.int .u64 (wordAt a.1 a.2.1))
noncomputable def spec59 : Fs U := fs args59 (fun a => [pre59 a]) res59
def args24 : ArgL (Tree × Unit) := (.cons (aEl .tree) .nil)
def pre24 (a : Tree × Unit) : Prop := mass a.1 ≤ 1000000000000
def mu24 (a : Tree × Unit) : Nat := mass a.1
noncomputable def res24 (a : Tree × Unit) : V U := .agg [.int .i64 (Tree.kind (normT a.1)), .slice (U := U) .u64 (Tree.words (normT a.1)) .unk, .slice (U := U) .tree (Tree.kids (normT a.1)) .unk]
noncomputable def spec24 : Fs U := fs args24 (fun a => [pre24 a]) res24
noncomputable def know19 (N : Nat) : List (FuncId × Fs U) := (19, fs args19 (fun a => [pre19 a, mu19 a < N]) res19) :: []
def lv19 : Lives U := fun i => match i with
  | 0 => ([(1, []), (2, []), (3, [])], [((.loc 3), [])])
  | 1 => ([(1, []), (2, []), (3, [])], [((.loc 3), [])])
  | 2 => ([(1, []), (2, []), (3, []), (19, [])], [((.loc 3), [])])
  | 3 => ([(6, [])], [])
  | 4 => ([(1, []), (2, []), (3, []), (7, [])], [((.loc 3), [])])
  | 5 => ([(1, []), (2, []), (3, []), (7, []), (28, [])], [((.loc 3), [])])
  | 6 => ([(1, []), (2, []), (3, []), (7, [])], [((.loc 3), [])])
  | 7 => ([(1, []), (2, []), (3, []), (7, [])], [((.loc 3), [])])
  | 8 => ([(6, [])], [])
  | _ => ([], [])
def head19_0 (t : Tree) (d : Int) (l : Int) (x2 : Int) (x7 : Int) : LSt U := (⟨[(1, .c (.int .i64 d)), (2, .c (.int .i64 x2)), (3, .ptr (.loc 3) 0), (7, .c (.int .i64 x7))], [((.loc 3), [.int .i64 (Tree.kind t), .slice (U := U) .u64 (Tree.words t) .unk, .slice (U := U) .tree (Tree.kids t) .unk])], []⟩ : LSt U)
theorem vc19 (N : Nat) (t : Tree) (d : Int) (l : Int) (Q : AExit → LSt U → Prop) (h : ((InR ((l : Int) - 1)) ∧ (InR ((((l : Int) - 1) : Int) - ((Tree.words t).length : Int))) ∧ (((!((d : Int) == 0)) = true → (!((d : Int) == 0)) = true) ∧ ((((d : Int) == 0) = false → (!((d : Int) == 0)) = true)) ∧ (((bif ((d : Int) == 0) then true else (decide ((((((l : Int) - 1) : Int) - ((Tree.words t).length : Int)) : Int) < 0))) = true → (Q .ret (⟨[(6, .c (.int .i64 (-1)))], [], []⟩ : LSt U))) ∧ ((bif ((d : Int) == 0) then true else (decide ((((((l : Int) - 1) : Int) - ((Tree.words t).length : Int)) : Int) < 0))) = false → (LoopWp (awp cfg (know (know19 N)) (drawOk cfg (know (know19 N))) Try.f19.ntmps lv19 (cd Try.f19 [1, 1, 1, 0, 1, 0, 0])) (head19_0 t d l ((((l : Int) - 1) : Int) - ((Tree.words t).length : Int)) 0) (AExit.inBlock 0 (seqK cfg (know (know19 N)) (drawOk cfg (know (know19 N))) Try.f19.ntmps lv19 (cd Try.f19 [1, 1, 1, 1]) Q)))))))) :
    awp cfg (know (know19 N)) (drawOk cfg (know (know19 N))) Try.f19.ntmps lv19 (cd Try.f19 []) (⟨[(0, .agg [.int .i64 (Tree.kind t), .slice (U := U) .u64 (Tree.words t) .unk, .slice (U := U) .tree (Tree.kids t) .unk]), (1, .c (.int .i64 d)), (2, .c (.int .i64 l))], [], []⟩ : LSt U) Q := by
  have e : (awp cfg (know (know19 N)) (drawOk cfg (know (know19 N))) Try.f19.ntmps lv19 (cd Try.f19 []) (⟨[(0, .agg [.int .i64 (Tree.kind t), .slice (U := U) .u64 (Tree.words t) .unk, .slice (U := U) .tree (Tree.kids t) .unk]), (1, .c (.int .i64 d)), (2, .c (.int .i64 l))], [], []⟩ : LSt U) Q) = (type_of% h) := by kernel_rfl
  exact e.mpr h
theorem vc19_l0 (N : Nat) (t : Tree) (d : Int) (l : Int) (x2 : Int) (x7 : Int) (N0 : LSt U → Prop) (Q : AExit → LSt U → Prop) (h : ((decide ((x7 : Int) < ((Tree.kids t).length : Int))) = true → (decide ((x7 : Int) < ((Tree.kids t).length : Int))) = true) ∧ (((decide ((x7 : Int) < ((Tree.kids t).length : Int))) = true → (decide ((x7 : Int) < ((Tree.kids t).length : Int))) = true)) ∧ (((bif (decide ((x7 : Int) < ((Tree.kids t).length : Int))) then (decide ((0 : Int) ≤ x2)) else false) = true → (0 ≤ x7 ∧ x7 < ((Tree.kids t).length : Int)) ∧ (InR ((d : Int) - 1)) ∧ (pre19 ((Tree.mk (Tree.kind (List.getD (Tree.kids t) (Int.toNat x7) Tree.nil)) (Tree.words (List.getD (Tree.kids t) (Int.toNat x7) Tree.nil)) (Tree.kids (List.getD (Tree.kids t) (Int.toNat x7) Tree.nil))), ((d : Int) - 1), x2, ())) ∧ (mu19 ((Tree.mk (Tree.kind (List.getD (Tree.kids t) (Int.toNat x7) Tree.nil)) (Tree.words (List.getD (Tree.kids t) (Int.toNat x7) Tree.nil)) (Tree.kids (List.getD (Tree.kids t) (Int.toNat x7) Tree.nil))), ((d : Int) - 1), x2, ()) < N) ∧ ((InR ((x7 : Int) + 1)) ∧ (N0 (head19_0 t d l (shallow (Tree.mk (Tree.kind (List.getD (Tree.kids t) (Int.toNat x7) Tree.nil)) (Tree.words (List.getD (Tree.kids t) (Int.toNat x7) Tree.nil)) (Tree.kids (List.getD (Tree.kids t) (Int.toNat x7) Tree.nil))) ((d : Int) - 1) x2) ((x7 : Int) + 1))))) ∧ ((bif (decide ((x7 : Int) < ((Tree.kids t).length : Int))) then (decide ((0 : Int) ≤ x2)) else false) = false → (Q .ret (⟨[(6, .c (.int .i64 x2))], [], []⟩ : LSt U))))) :
    awp cfg (know (know19 N)) (drawOk cfg (know (know19 N))) Try.f19.ntmps lv19 (cd Try.f19 [1, 1, 1, 0, 1, 0, 0]) (head19_0 t d l x2 x7) (AExit.then N0 (AExit.inBlock 0 (seqK cfg (know (know19 N)) (drawOk cfg (know (know19 N))) Try.f19.ntmps lv19 (cd Try.f19 [1, 1, 1, 1]) Q))) := by
  have e : (awp cfg (know (know19 N)) (drawOk cfg (know (know19 N))) Try.f19.ntmps lv19 (cd Try.f19 [1, 1, 1, 0, 1, 0, 0]) (head19_0 t d l x2 x7) (AExit.then N0 (AExit.inBlock 0 (seqK cfg (know (know19 N)) (drawOk cfg (know (know19 N))) Try.f19.ntmps lv19 (cd Try.f19 [1, 1, 1, 1]) Q)))) = (type_of% h) := by kernel_rfl
  exact e.mpr h
def Body19 (N : Nat) (t : Tree) (d : Int) (l : Int)  : Prop := awp cfg (know (know19 N)) (drawOk cfg (know (know19 N))) Try.f19.ntmps lv19 (cd Try.f19 []) (entry (args19.can (t, d, l, ())) []) (EndsQ cfg Try.f19.ntmps Try.f19.results.toList (res19 (t, d, l, ())) [])
theorem make19 (hb : ∀ (N : Nat) (t : Tree) (d : Int) (l : Int) (_ : Unit), pre19 (t, d, l, ()) → mu19 (t, d, l, ()) < N + 1 → Body19 N t d l) : Contract Try.prog cfg 19 spec19 :=
  contract_rec (μ := mu19) (l := []) cfgOk rfl (trivial) lv19 Try.func19 rfl rfl 3 (fun _ => rfl) (by decide) (fun N ⟨t, d, l, _⟩ => hb N t d l ())
noncomputable def know6 : List (FuncId × Fs U) := [(19, spec19)]
def lv6 : Lives U := fun i => match i with
  | 0 => ([(1, [])], [((.loc 1), [])])
  | 1 => ([(2, [])], [])
  | _ => ([], [])
theorem vc6 (t : Tree) (Q : AExit → LSt U → Prop) (h : ((pre19 ((Tree.mk (Tree.kind t) (Tree.words t) (Tree.kids t)), 80, 3000, ())) ∧ (Q .ret (⟨[(2, .c (.bool (decide ((0 : Int) ≤ (shallow (Tree.mk (Tree.kind t) (Tree.words t) (Tree.kids t)) 80 3000)))))], [], []⟩ : LSt U)))) :
    awp cfg (know know6) (drawOk cfg (know know6)) Try.f6.ntmps lv6 (cd Try.f6 []) (⟨[(0, .agg [.int .i64 (Tree.kind t), .slice (U := U) .u64 (Tree.words t) .unk, .slice (U := U) .tree (Tree.kids t) .unk])], [], []⟩ : LSt U) Q := by
  have e : (awp cfg (know know6) (drawOk cfg (know know6)) Try.f6.ntmps lv6 (cd Try.f6 []) (⟨[(0, .agg [.int .i64 (Tree.kind t), .slice (U := U) .u64 (Tree.words t) .unk, .slice (U := U) .tree (Tree.kids t) .unk])], [], []⟩ : LSt U) Q) = (type_of% h) := by kernel_rfl
  exact e.mpr h
def Body6 (t : Tree)  : Prop := awp cfg (know (know6)) (drawOk cfg (know (know6))) Try.f6.ntmps lv6 (cd Try.f6 []) (entry (args6.can (t, ())) []) (EndsQ cfg Try.f6.ntmps Try.f6.results.toList (res6 (t, ())) [])
theorem make6 (c19 : Contract Try.prog cfg 19 spec19) (hb : ∀ (t : Tree) (_ : Unit), pre6 (t, ()) → Body6 t) : Contract Try.prog cfg 6 spec6 :=
  contract_flat (l := [(19, spec19)]) cfgOk rfl (⟨c19, trivial⟩) lv6 Try.func6 rfl rfl 1 (fun _ => rfl) (by decide) (fun ⟨t, _⟩ => hb t ())
noncomputable def know59 : List (FuncId × Fs U) := []
def lv59 : Lives U := fun i => match i with
  | 0 => ([(1, []), (2, [])], [((.loc 2), [])])
  | 1 => ([(1, []), (2, []), (13, [])], [((.loc 2), [])])
  | 2 => ([(4, [])], [])
  | 3 => ([(4, [])], [])
  | _ => ([], [])
theorem vc59 (t : Tree) (i : Int) (Q : AExit → LSt U → Prop) (h : (((!(decide ((i : Int) < 0))) = true → (!(decide ((i : Int) < 0))) = true) ∧ ((!(decide ((i : Int) < 0))) = true → (!(decide ((i : Int) < 0))) = true) ∧ ((!(decide ((i : Int) < 0))) = true → (!(decide ((i : Int) < 0))) = true) ∧ ((!(decide ((i : Int) < 0))) = true → (!(decide ((i : Int) < 0))) = true) ∧ (((decide ((i : Int) < 0)) = false → (!(decide ((i : Int) < 0))) = true)) ∧ (((bif (decide ((i : Int) < 0)) then true else (decide ((((Tree.words t).length : Int) : Int) ≤ i))) = true → (Q .ret (⟨[(4, .c (.int .u64 0))], [], []⟩ : LSt U))) ∧ ((bif (decide ((i : Int) < 0)) then true else (decide ((((Tree.words t).length : Int) : Int) ≤ i))) = false → (0 ≤ i ∧ i < ((Tree.words t).length : Int)) ∧ (Q .ret (⟨[(4, .c (.int .u64 (List.getD (Tree.words t) (Int.toNat i) (0 : Int))))], [], []⟩ : LSt U)))))) :
    awp cfg (know know59) (drawOk cfg (know know59)) Try.f59.ntmps lv59 (cd Try.f59 []) (⟨[(0, .agg [.int .i64 (Tree.kind t), .slice (U := U) .u64 (Tree.words t) .unk, .slice (U := U) .tree (Tree.kids t) .unk]), (1, .c (.int .i64 i))], [], []⟩ : LSt U) Q := by
  have e : (awp cfg (know know59) (drawOk cfg (know know59)) Try.f59.ntmps lv59 (cd Try.f59 []) (⟨[(0, .agg [.int .i64 (Tree.kind t), .slice (U := U) .u64 (Tree.words t) .unk, .slice (U := U) .tree (Tree.kids t) .unk]), (1, .c (.int .i64 i))], [], []⟩ : LSt U) Q) = (type_of% h) := by kernel_rfl
  exact e.mpr h
def Body59 (t : Tree) (i : Int)  : Prop := awp cfg (know (know59)) (drawOk cfg (know (know59))) Try.f59.ntmps lv59 (cd Try.f59 []) (entry (args59.can (t, i, ())) []) (EndsQ cfg Try.f59.ntmps Try.f59.results.toList (res59 (t, i, ())) [])
theorem make59 (hb : ∀ (t : Tree) (i : Int) (_ : Unit), pre59 (t, i, ()) → Body59 t i) : Contract Try.prog cfg 59 spec59 :=
  contract_flat (l := []) cfgOk rfl (trivial) lv59 Try.func59 rfl rfl 2 (fun _ => rfl) (by decide) (fun ⟨t, i, _⟩ => hb t i ())
noncomputable def know24 (N : Nat) : List (FuncId × Fs U) := (24, fs args24 (fun a => [pre24 a, mu24 a < N]) res24) :: [(37, spec37)]
def lv24 : Lives U := fun i => match i with
  | 0 => ([(1, []), (2, [])], [((.loc 1), []), ((.loc 2), [])])
  | 1 => ([(1, []), (2, []), (8, [])], [((.loc 1), []), ((.loc 2), [])])
  | 2 => ([(2, [])], [((.loc 2), [])])
  | 3 => ([(1, []), (2, []), (3, [])], [((.loc 1), []), ((.loc 2), []), ((.loc 3), [])])
  | 4 => ([(1, []), (2, []), (3, []), (17, []), (18, []), (19, [])], [((.loc 1), []), ((.loc 2), []), ((.loc 3), [.any, .any, .own .tree])])
  | 5 => ([(1, []), (2, []), (3, []), (17, []), (18, []), (19, []), (20, [])], [((.loc 1), []), ((.loc 2), []), ((.loc 3), [])])
  | 6 => ([(1, []), (2, []), (3, []), (5, []), (17, []), (18, []), (19, [])], [((.loc 1), []), ((.loc 2), []), ((.loc 3), []), ((.loc 5), [])])
  | 7 => ([(1, []), (2, []), (3, []), (17, []), (18, []), (19, [])], [((.loc 1), []), ((.loc 2), []), ((.loc 3), [])])
  | 8 => ([(1, []), (2, []), (3, []), (17, []), (18, []), (19, [])], [((.loc 1), []), ((.loc 2), []), ((.loc 3), [.any, .any, .own .tree])])
  | 9 => ([(2, []), (3, []), (33, [])], [((.loc 2), []), ((.loc 3), [.any, .any, .unk .tree])])
  | 10 => ([(2, []), (3, []), (33, []), (48, [])], [((.loc 2), []), ((.loc 3), [.any, .any, .unk .tree])])
  | 11 => ([(2, []), (3, []), (33, [])], [((.loc 2), []), ((.loc 3), [.any, .any, .unk .tree])])
  | 12 => ([(2, []), (3, []), (33, []), (48, []), (72, [])], [((.loc 2), []), ((.loc 3), [])])
  | 13 => ([(2, []), (3, []), (33, []), (48, [])], [((.loc 2), []), ((.loc 3), [.any, .any, .unk .tree])])
  | 14 => ([(2, [])], [((.loc 2), [])])
  | _ => ([], [])
def head24_0 (t : Tree) (x19 : Int) (ml3_2 : List Tree) : LSt U := (⟨[(1, .ptr (.loc 1) 0), (2, .ptr (.loc 2) 0), (3, .ptr (.loc 3) 0), (17, .c (.slice (U := U) .tree (Tree.kids t) .unk)), (18, .c (.int .i64 ((Tree.kids t).length : Int))), (19, .c (.int .i64 x19))], [((.loc 1), [.int .i64 (Tree.kind t), .slice (U := U) .u64 (Tree.words t) .unk, .slice (U := U) .tree (Tree.kids t) .unk]), ((.loc 2), [.int .i64 0, .nils, .nils]), ((.loc 3), [.int .i64 (Tree.kind t), .slice (U := U) .u64 (Tree.words t) .unk, .slice (U := U) .tree ml3_2 (.own (.l 3 2))])], []⟩ : LSt U)
def head24_1 (t : Tree) (ml3_2 : List Tree) (ml3_1_a : List Int) : LSt U := (⟨[(2, .ptr (.loc 2) 0), (3, .ptr (.loc 3) 0), (33, .c (.bool (((Tree.kind t) : Int) == 1)))], [((.loc 2), [.int .i64 0, .nils, .nils]), ((.loc 3), [.int .i64 (Tree.kind t), .slice (U := U) .u64 ml3_1_a .unk, .slice (U := U) .tree ml3_2 .unk])], []⟩ : LSt U)
def head24_2 (t : Tree) (ml3_1_a : List Int) (ml3_2_b : List Tree) : LSt U := (⟨[(2, .ptr (.loc 2) 0), (3, .ptr (.loc 3) 0), (33, .c (.bool (((Tree.kind t) : Int) == 1))), (48, .c (.bool (bif (decide ((0 : Int) < (ml3_1_a.length : Int))) then (((List.getD ml3_1_a (Int.toNat (((ml3_1_a.length : Int) : Int) - 1)) (0 : Int)) : Int) == 0) else false)))], [((.loc 2), [.int .i64 0, .nils, .nils]), ((.loc 3), [.int .i64 (Tree.kind t), .slice (U := U) .u64 ml3_1_a .unk, .slice (U := U) .tree ml3_2_b .unk])], []⟩ : LSt U)
theorem vc24 (N : Nat) (t : Tree) (Q : AExit → LSt U → Prop) (h : ((((((Tree.kind t) : Int) == 0) = true → (Q .ret (⟨[(2, .ptr (.loc 2) 0)], [((.loc 2), [.int .i64 0, .nils, .nils])], []⟩ : LSt U))) ∧ ((((Tree.kind t) : Int) == 0) = false → (pre37 ((Tree.words t), ())) ∧ ((LoopWp (awp cfg (know (know24 N)) (drawOk cfg (know (know24 N))) Try.f24.ntmps lv24 (cd Try.f24 [1, 1, 1, 0, 1, 0, 0])) (head24_0 t 0 ([])) (AExit.inBlock 0 (seqK cfg (know (know24 N)) (drawOk cfg (know (know24 N))) Try.f24.ntmps lv24 (cd Try.f24 [1, 1, 1, 1]) Q)))))))) :
    awp cfg (know (know24 N)) (drawOk cfg (know (know24 N))) Try.f24.ntmps lv24 (cd Try.f24 []) (⟨[(0, .agg [.int .i64 (Tree.kind t), .slice (U := U) .u64 (Tree.words t) .unk, .slice (U := U) .tree (Tree.kids t) .unk])], [], []⟩ : LSt U) Q := by
  have e : (awp cfg (know (know24 N)) (drawOk cfg (know (know24 N))) Try.f24.ntmps lv24 (cd Try.f24 []) (⟨[(0, .agg [.int .i64 (Tree.kind t), .slice (U := U) .u64 (Tree.words t) .unk, .slice (U := U) .tree (Tree.kids t) .unk])], [], []⟩ : LSt U) Q) = (type_of% h) := by kernel_rfl
  exact e.mpr h
theorem vc24_l0 (N : Nat) (t : Tree) (x19 : Int) (ml3_2 : List Tree) (N0 : LSt U → Prop) (Q : AExit → LSt U → Prop) (h : (((decide ((x19 : Int) < ((Tree.kids t).length : Int))) = true → (0 ≤ x19 ∧ x19 < ((Tree.kids t).length : Int)) ∧ ((pre24 ((Tree.mk (Tree.kind (List.getD (Tree.kids t) (Int.toNat x19) Tree.nil)) (Tree.words (List.getD (Tree.kids t) (Int.toNat x19) Tree.nil)) (Tree.kids (List.getD (Tree.kids t) (Int.toNat x19) Tree.nil))), ())) ∧ (mu24 ((Tree.mk (Tree.kind (List.getD (Tree.kids t) (Int.toNat x19) Tree.nil)) (Tree.words (List.getD (Tree.kids t) (Int.toNat x19) Tree.nil)) (Tree.kids (List.getD (Tree.kids t) (Int.toNat x19) Tree.nil))), ()) < N) ∧ ((ml3_2.length + ([(Tree.mk (Tree.kind (normT (Tree.mk (Tree.kind (List.getD (Tree.kids t) (Int.toNat x19) Tree.nil)) (Tree.words (List.getD (Tree.kids t) (Int.toNat x19) Tree.nil)) (Tree.kids (List.getD (Tree.kids t) (Int.toNat x19) Tree.nil))))) (Tree.words (normT (Tree.mk (Tree.kind (List.getD (Tree.kids t) (Int.toNat x19) Tree.nil)) (Tree.words (List.getD (Tree.kids t) (Int.toNat x19) Tree.nil)) (Tree.kids (List.getD (Tree.kids t) (Int.toNat x19) Tree.nil))))) (Tree.kids (normT (Tree.mk (Tree.kind (List.getD (Tree.kids t) (Int.toNat x19) Tree.nil)) (Tree.words (List.getD (Tree.kids t) (Int.toNat x19) Tree.nil)) (Tree.kids (List.getD (Tree.kids t) (Int.toNat x19) Tree.nil))))))]).length) * 56 ≤ 140737488355328) ∧ ((InR ((x19 : Int) + 1)) ∧ (N0 (head24_0 t ((x19 : Int) + 1) (ml3_2 ++ ([(Tree.mk (Tree.kind (normT (Tree.mk (Tree.kind (List.getD (Tree.kids t) (Int.toNat x19) Tree.nil)) (Tree.words (List.getD (Tree.kids t) (Int.toNat x19) Tree.nil)) (Tree.kids (List.getD (Tree.kids t) (Int.toNat x19) Tree.nil))))) (Tree.words (normT (Tree.mk (Tree.kind (List.getD (Tree.kids t) (Int.toNat x19) Tree.nil)) (Tree.words (List.getD (Tree.kids t) (Int.toNat x19) Tree.nil)) (Tree.kids (List.getD (Tree.kids t) (Int.toNat x19) Tree.nil))))) (Tree.kids (normT (Tree.mk (Tree.kind (List.getD (Tree.kids t) (Int.toNat x19) Tree.nil)) (Tree.words (List.getD (Tree.kids t) (Int.toNat x19) Tree.nil)) (Tree.kids (List.getD (Tree.kids t) (Int.toNat x19) Tree.nil))))))]))))))) ∧ ((decide ((x19 : Int) < ((Tree.kids t).length : Int))) = false → (((((Tree.kind t) : Int) == 1) = true → LoopWp (awp cfg (know (know24 N)) (drawOk cfg (know (know24 N))) Try.f24.ntmps lv24 (cd Try.f24 [1, 1, 1, 1, 0, 1, 0, 0, 0, 0])) (head24_1 t ml3_2 (Tree.words t)) (AExit.inBlock 2 (seqK cfg (know (know24 N)) (drawOk cfg (know (know24 N))) Try.f24.ntmps lv24 (cd Try.f24 [1, 1, 1, 1, 0, 1, 0, 1]) (seqK cfg (know (know24 N)) (drawOk cfg (know (know24 N))) Try.f24.ntmps lv24 (cd Try.f24 [1, 1, 1, 1, 1]) Q)))) ∧ ((((Tree.kind t) : Int) == 1) = false → (Q .ret (⟨[(2, .ptr (.loc 2) 0)], [((.loc 2), [.int .i64 (Tree.kind t), .slice (U := U) .u64 (Tree.words t) .unk, .slice (U := U) .tree ml3_2 .unk])], []⟩ : LSt U))))))) :
    awp cfg (know (know24 N)) (drawOk cfg (know (know24 N))) Try.f24.ntmps lv24 (cd Try.f24 [1, 1, 1, 0, 1, 0, 0]) (head24_0 t x19 ml3_2) (AExit.then N0 (AExit.inBlock 0 (seqK cfg (know (know24 N)) (drawOk cfg (know (know24 N))) Try.f24.ntmps lv24 (cd Try.f24 [1, 1, 1, 1]) Q))) := by
  have e : (awp cfg (know (know24 N)) (drawOk cfg (know (know24 N))) Try.f24.ntmps lv24 (cd Try.f24 [1, 1, 1, 0, 1, 0, 0]) (head24_0 t x19 ml3_2) (AExit.then N0 (AExit.inBlock 0 (seqK cfg (know (know24 N)) (drawOk cfg (know (know24 N))) Try.f24.ntmps lv24 (cd Try.f24 [1, 1, 1, 1]) Q)))) = (type_of% h) := by kernel_rfl
  exact e.mpr h
theorem vc24_l1 (N : Nat) (t : Tree) (ml3_2 : List Tree) (ml3_1_a : List Int) (N1 : LSt U → Prop) (Q : AExit → LSt U → Prop) (h : ((decide ((0 : Int) < (ml3_1_a.length : Int))) = true → (decide ((0 : Int) < (ml3_1_a.length : Int))) = true) ∧ ((decide ((0 : Int) < (ml3_1_a.length : Int))) = true → (decide ((0 : Int) < (ml3_1_a.length : Int))) = true) ∧ ((decide ((0 : Int) < (ml3_1_a.length : Int))) = true → (decide ((0 : Int) < (ml3_1_a.length : Int))) = true) ∧ ((decide ((0 : Int) < (ml3_1_a.length : Int))) = true → (decide ((0 : Int) < (ml3_1_a.length : Int))) = true) ∧ ((decide ((0 : Int) < (ml3_1_a.length : Int))) = true → InR (((ml3_1_a.length : Int) : Int) - 1)) ∧ ((decide ((0 : Int) < (ml3_1_a.length : Int))) = true → (decide ((0 : Int) < (ml3_1_a.length : Int))) = true) ∧ ((decide ((0 : Int) < (ml3_1_a.length : Int))) = true → (decide ((0 : Int) < (ml3_1_a.length : Int))) = true) ∧ ((decide ((0 : Int) < (ml3_1_a.length : Int))) = true → 0 ≤ (((ml3_1_a.length : Int) : Int) - 1) ∧ (((ml3_1_a.length : Int) : Int) - 1) < (ml3_1_a.length : Int)) ∧ ((decide ((0 : Int) < (ml3_1_a.length : Int))) = true → (decide ((0 : Int) < (ml3_1_a.length : Int))) = true) ∧ ((decide ((0 : Int) < (ml3_1_a.length : Int))) = true → (decide ((0 : Int) < (ml3_1_a.length : Int))) = true) ∧ (((decide ((0 : Int) < (ml3_1_a.length : Int))) = true → (decide ((0 : Int) < (ml3_1_a.length : Int))) = true)) ∧ (((bif (decide ((0 : Int) < (ml3_1_a.length : Int))) then (((List.getD ml3_1_a (Int.toNat (((ml3_1_a.length : Int) : Int) - 1)) (0 : Int)) : Int) == 0) else false) = true → (InR (((ml3_1_a.length : Int) : Int) - 1)) ∧ (0 ≤ (((ml3_1_a.length : Int) : Int) - 1) ∧ (((ml3_1_a.length : Int) : Int) - 1) ≤ (ml3_1_a.length : Int)) ∧ (N1 (head24_1 t ml3_2 (List.take (Int.toNat (((ml3_1_a.length : Int) : Int) - 1)) ml3_1_a)))) ∧ ((bif (decide ((0 : Int) < (ml3_1_a.length : Int))) then (((List.getD ml3_1_a (Int.toNat (((ml3_1_a.length : Int) : Int) - 1)) (0 : Int)) : Int) == 0) else false) = false → LoopWp (awp cfg (know (know24 N)) (drawOk cfg (know (know24 N))) Try.f24.ntmps lv24 (cd Try.f24 [1, 1, 1, 1, 0, 1, 0, 1, 0, 0])) (head24_2 t ml3_1_a ml3_2) (AExit.inBlock 4 (seqK cfg (know (know24 N)) (drawOk cfg (know (know24 N))) Try.f24.ntmps lv24 (cd Try.f24 [1, 1, 1, 1, 1]) Q))))) :
    awp cfg (know (know24 N)) (drawOk cfg (know (know24 N))) Try.f24.ntmps lv24 (cd Try.f24 [1, 1, 1, 1, 0, 1, 0, 0, 0, 0]) (head24_1 t ml3_2 ml3_1_a) (AExit.then N1 (AExit.inBlock 2 (seqK cfg (know (know24 N)) (drawOk cfg (know (know24 N))) Try.f24.ntmps lv24 (cd Try.f24 [1, 1, 1, 1, 0, 1, 0, 1]) (seqK cfg (know (know24 N)) (drawOk cfg (know (know24 N))) Try.f24.ntmps lv24 (cd Try.f24 [1, 1, 1, 1, 1]) Q)))) := by
  have e : (awp cfg (know (know24 N)) (drawOk cfg (know (know24 N))) Try.f24.ntmps lv24 (cd Try.f24 [1, 1, 1, 1, 0, 1, 0, 0, 0, 0]) (head24_1 t ml3_2 ml3_1_a) (AExit.then N1 (AExit.inBlock 2 (seqK cfg (know (know24 N)) (drawOk cfg (know (know24 N))) Try.f24.ntmps lv24 (cd Try.f24 [1, 1, 1, 1, 0, 1, 0, 1]) (seqK cfg (know (know24 N)) (drawOk cfg (know (know24 N))) Try.f24.ntmps lv24 (cd Try.f24 [1, 1, 1, 1, 1]) Q))))) = (type_of% h) := by kernel_rfl
  exact e.mpr h
theorem vc24_l2 (N : Nat) (t : Tree) (ml3_1_a : List Int) (ml3_2_b : List Tree) (N2 : LSt U → Prop) (Q : AExit → LSt U → Prop) (h : ((decide ((0 : Int) < (ml3_2_b.length : Int))) = true → (decide ((0 : Int) < (ml3_2_b.length : Int))) = true) ∧ ((decide ((0 : Int) < (ml3_2_b.length : Int))) = true → (decide ((0 : Int) < (ml3_2_b.length : Int))) = true) ∧ ((decide ((0 : Int) < (ml3_2_b.length : Int))) = true → (decide ((0 : Int) < (ml3_2_b.length : Int))) = true) ∧ ((decide ((0 : Int) < (ml3_2_b.length : Int))) = true → (decide ((0 : Int) < (ml3_2_b.length : Int))) = true) ∧ ((decide ((0 : Int) < (ml3_2_b.length : Int))) = true → InR (((ml3_2_b.length : Int) : Int) - 1)) ∧ ((decide ((0 : Int) < (ml3_2_b.length : Int))) = true → (decide ((0 : Int) < (ml3_2_b.length : Int))) = true) ∧ ((decide ((0 : Int) < (ml3_2_b.length : Int))) = true → (decide ((0 : Int) < (ml3_2_b.length : Int))) = true) ∧ ((decide ((0 : Int) < (ml3_2_b.length : Int))) = true → 0 ≤ (((ml3_2_b.length : Int) : Int) - 1) ∧ (((ml3_2_b.length : Int) : Int) - 1) < (ml3_2_b.length : Int)) ∧ ((decide ((0 : Int) < (ml3_2_b.length : Int))) = true → (decide ((0 : Int) < (ml3_2_b.length : Int))) = true) ∧ ((decide ((0 : Int) < (ml3_2_b.length : Int))) = true → (decide ((0 : Int) < (ml3_2_b.length : Int))) = true) ∧ ((decide ((0 : Int) < (ml3_2_b.length : Int))) = true → (decide ((0 : Int) < (ml3_2_b.length : Int))) = true) ∧ (((decide ((0 : Int) < (ml3_2_b.length : Int))) = true → (decide ((0 : Int) < (ml3_2_b.length : Int))) = true)) ∧ (((bif (decide ((0 : Int) < (ml3_2_b.length : Int))) then (((Tree.kind (List.getD ml3_2_b (Int.toNat (((ml3_2_b.length : Int) : Int) - 1)) Tree.nil)) : Int) == 0) else false) = true → (InR (((ml3_2_b.length : Int) : Int) - 1)) ∧ (0 ≤ (((ml3_2_b.length : Int) : Int) - 1) ∧ (((ml3_2_b.length : Int) : Int) - 1) ≤ (ml3_2_b.length : Int)) ∧ (N2 (head24_2 t ml3_1_a (List.take (Int.toNat (((ml3_2_b.length : Int) : Int) - 1)) ml3_2_b)))) ∧ ((bif (decide ((0 : Int) < (ml3_2_b.length : Int))) then (((Tree.kind (List.getD ml3_2_b (Int.toNat (((ml3_2_b.length : Int) : Int) - 1)) Tree.nil)) : Int) == 0) else false) = false → (Q .ret (⟨[(2, .ptr (.loc 2) 0)], [((.loc 2), [.int .i64 (Tree.kind t), .slice (U := U) .u64 ml3_1_a .unk, .slice (U := U) .tree ml3_2_b .unk])], []⟩ : LSt U))))) :
    awp cfg (know (know24 N)) (drawOk cfg (know (know24 N))) Try.f24.ntmps lv24 (cd Try.f24 [1, 1, 1, 1, 0, 1, 0, 1, 0, 0]) (head24_2 t ml3_1_a ml3_2_b) (AExit.then N2 (AExit.inBlock 4 (seqK cfg (know (know24 N)) (drawOk cfg (know (know24 N))) Try.f24.ntmps lv24 (cd Try.f24 [1, 1, 1, 1, 1]) Q))) := by
  have e : (awp cfg (know (know24 N)) (drawOk cfg (know (know24 N))) Try.f24.ntmps lv24 (cd Try.f24 [1, 1, 1, 1, 0, 1, 0, 1, 0, 0]) (head24_2 t ml3_1_a ml3_2_b) (AExit.then N2 (AExit.inBlock 4 (seqK cfg (know (know24 N)) (drawOk cfg (know (know24 N))) Try.f24.ntmps lv24 (cd Try.f24 [1, 1, 1, 1, 1]) Q)))) = (type_of% h) := by kernel_rfl
  exact e.mpr h
def Body24 (N : Nat) (t : Tree)  : Prop := awp cfg (know (know24 N)) (drawOk cfg (know (know24 N))) Try.f24.ntmps lv24 (cd Try.f24 []) (entry (args24.can (t, ())) []) (EndsQ cfg Try.f24.ntmps Try.f24.results.toList (res24 (t, ())) [])
theorem make24 (c37 : Contract Try.prog cfg 37 spec37) (hb : ∀ (N : Nat) (t : Tree) (_ : Unit), pre24 (t, ()) → mu24 (t, ()) < N + 1 → Body24 N t) : Contract Try.prog cfg 24 spec24 :=
  contract_rec (μ := mu24) (l := [(37, spec37)]) cfgOk rfl (⟨c37, trivial⟩) lv24 Try.func24 rfl rfl 1 (fun _ => rfl) (by decide) (fun N ⟨t, _⟩ => hb N t ())
end Go.AM.Ytcljdbpmjdgooaa

namespace Go.AM.Ytcljdbpmjdgooaa
open Go.AM Go.Proofs
theorem smallK_get : ∀ {ks : List Tree} {i : Nat}, smallK ks → i < ks.length → small (ks.getD i Tree.nil)
  | t :: _, 0, h, _ => by simp only [smallK] at h; exact h.1
  | _ :: r, i + 1, h, hi => by simp only [smallK] at h; exact smallK_get (ks := r) (i := i) h.2 (by simpa using hi)
theorem massK_get : ∀ {ks : List Tree} {i : Nat}, i < ks.length → mass (ks.getD i Tree.nil) ≤ massK ks
  | t :: _, 0, _ => by simp only [massK, List.getD_cons_zero]; omega
  | t :: r, i + 1, h => by
    have := massK_get (ks := r) (i := i) (by simpa using h)
    simp only [massK, List.getD_cons_succ]
    omega
mutual
theorem shallow_range : ∀ (t : Tree) (d l : Int), -1 ≤ shallow t d l ∧ shallow t d l ≤ max l (-1)
  | .mk _ w ks, d, l => by
    simp only [shallow]
    split
    · omega
    · have := shallowK_range ks (d - 1) (l - 1 - w.length) (by omega)
      omega
theorem shallowK_range : ∀ (ks : List Tree) (d l : Int), -1 ≤ l → -1 ≤ shallowK ks d l ∧ shallowK ks d l ≤ l
  | [], d, l, h => by simp only [shallowK]; omega
  | t :: r, d, l, h => by
    simp only [shallowK]
    split
    · omega
    · have h1 := shallow_range t d l
      have h2 := shallowK_range r d (shallow t d l) h1.1
      omega
end
theorem shallowK_drop {ks : List Tree} {i : Nat} {d l : Int} (h : i < ks.length) (hl : 0 ≤ l) : shallowK (ks.drop i) d l = shallowK (ks.drop (i + 1)) d (shallow (ks.getD i Tree.nil) d l) := by
  rw [List.drop_eq_getElem_cons h]
  simp only [shallowK]
  rw [if_neg (by omega)]
  simp [List.getD, h]
theorem c19 : Contract Try.prog cfg 19 spec19 := by
  refine make19 ?_
  rintro N ⟨k, ws, ks⟩ d l _ ⟨hs, h1, h2, h3, h4⟩ hN
  simp only [small, mu19, mass] at *
  refine vc19 N _ _ _ _ ?_
  (simp only [vcS])
  (simp only [Tree.eta, Tree.kind_mk, Tree.words_mk, Tree.kids_mk])
  refine ⟨by unfold InR; omega, by unfold InR; omega, by omega, by omega, fun hc => ?_, fun hc => ?_⟩
  · have e : shallow (.mk k ws ks) d l = -1 := by
      simp only [shallow]
      rw [if_pos (by omega)]
    simp only [res19, e]
    exact ⟨⟨rfl, ⟨⟨rfl, rfl⟩, trivial⟩, trivial⟩, trivial⟩
  · have e : shallow (.mk k ws ks) d l = shallowK ks (d - 1) (l - 1 - ws.length) := by
      simp only [shallow]
      rw [if_neg (by omega)]
    simp only [res19, e]
    refine loop_rule (ι := Int × Int) (fun p => head19_0 (.mk k ws ks) d l p.1 p.2) (fun p => 0 ≤ p.2 ∧ p.2 ≤ ks.length ∧ -1 ≤ p.1 ∧ p.1 ≤ l ∧ shallowK (ks.drop p.2.toNat) (d - 1) p.1 = shallowK ks (d - 1) (l - 1 - ws.length)) (fun p => ((ks.length : Int) - p.2).toNat) (l - 1 - ws.length, 0) rfl ⟨by omega, by omega, by omega, by omega, by simp⟩ ?_
    rintro ⟨l', i⟩ ⟨h5, h6, h7, h8, h9⟩
    dsimp only at *
    refine vc19_l0 N _ _ _ _ _ _ _ ?_
    (simp only [vcS])
    (simp only [Tree.eta, Tree.kind_mk, Tree.words_mk, Tree.kids_mk])
    refine ⟨by omega, by omega, fun hc => ?_, fun hc => ?_⟩
    · have hi : i.toNat < ks.length := by omega
      have hr := shallow_range (ks.getD i.toNat Tree.nil) (d - 1) l'
      have hn := massK_get hi
      have hd := shallowK_drop (d := d - 1) hi hc.2
      refine ⟨by omega, by unfold InR; omega, ⟨smallK_get hs.2.2 hi, by dsimp only; omega, by dsimp only; omega, by dsimp only; omega, by dsimp only; omega⟩, by simp only [mu19]; omega, by unfold InR; omega, ⟨(shallow (ks.getD i.toNat Tree.nil) (d - 1) l', i + 1), rfl, ⟨by dsimp only; omega, by dsimp only; omega, by dsimp only; omega, by dsimp only; omega, ?_⟩, by dsimp only; omega⟩⟩
      dsimp only
      rw [← h9, hd]
      congr 2
      omega
    · have e : shallowK ks (d - 1) (l - 1 - ws.length) = l' := by
        rw [← h9]
        by_cases hi : i < ks.length
        · rw [List.drop_eq_getElem_cons (by omega)]
          simp only [shallowK]
          rw [if_pos (by omega)]
        · rw [List.drop_eq_nil_of_le (by omega)]
          simp only [shallowK]
      rw [e]
      exact ⟨⟨rfl, ⟨⟨rfl, rfl⟩, trivial⟩, trivial⟩, trivial⟩
theorem c6 : Contract Try.prog cfg 6 spec6 := by
  refine make6 c19 ?_
  intro t _ hp
  refine vc6 _ _ ?_
  (simp only [Tree.eta, Tree.kind_mk, Tree.words_mk, Tree.kids_mk])
  refine ⟨⟨hp, by dsimp only; omega, by dsimp only; omega, by dsimp only; omega, by dsimp only; omega⟩, ?_⟩
  exact ⟨⟨rfl, ⟨rfl, trivial⟩, trivial⟩, trivial⟩
theorem c59 : Contract Try.prog cfg 59 spec59 := by
  refine make59 ?_
  intro t i _ hp
  refine vc59 _ _ _ ?_
  (simp only [vcS])
  (repeat (refine And.intro (by first | omega | (unfold InR; omega) | (dsimp only; omega)) ?_))
  refine ⟨fun hc => ?_, fun hc => ⟨by omega, ?_⟩⟩
  · have e : wordAt t i = 0 := by
      unfold wordAt
      split
      · rfl
      · rw [List.getD, List.getElem?_eq_none (by omega)]
        rfl
    simp only [res59, e]
    exact ⟨⟨rfl, ⟨⟨rfl, rfl⟩, trivial⟩, trivial⟩, trivial⟩
  · have e : wordAt t i = t.words.getD i.toNat 0 := by
      unfold wordAt
      rw [if_neg (by omega)]
    simp only [res59, e]
    exact ⟨⟨rfl, ⟨⟨rfl, rfl⟩, trivial⟩, trivial⟩, trivial⟩
theorem massK_len : ∀ (ks : List Tree), ks.length ≤ massK ks
  | [] => by simp [massK]
  | t :: r => by
    have := massK_len r
    have : 1 ≤ mass t := by cases t; simp only [mass]; omega
    simp only [massK, List.length_cons]
    omega
theorem trim_zero : ∀ (l : List Int), trim (l ++ [0]) = trim l
  | [] => rfl
  | x :: r => by
    show (match trim (r ++ [0]) with | [] => if x = 0 then [] else [x] | y :: s => x :: y :: s) = _
    rw [trim_zero r]
    rfl
theorem trim_ne {x : Int} (hx : x ≠ 0) : ∀ (l : List Int), trim (l ++ [x]) = l ++ [x]
  | [] => by simp [trim, hx]
  | y :: r => by
    show (match trim (r ++ [x]) with | [] => if y = 0 then [] else [y] | z :: s => y :: z :: s) = _
    rw [trim_ne hx r]
    cases r <;> rfl
theorem take_last {l : List Int} {i : Int} (h0 : 0 < i) (hi : i ≤ l.length) : l.take i.toNat = l.take (i - 1).toNat ++ [l.getD (i - 1).toNat 0] := by
  have e : i.toNat = (i - 1).toNat + 1 := by omega
  rw [e, List.take_add_one]
  simp only [List.getD, List.getElem?_eq_getElem (show (i - 1).toNat < l.length by omega), Option.toList, Option.getD_some]
theorem trim_len : ∀ (l : List Int), (trim l).length ≤ l.length
  | [] => by simp [trim]
  | x :: r => by
    have := trim_len r
    simp only [trim]
    split
    · split <;> simp
    · rename_i h
      rw [h] at this
      simp at *
      omega
theorem trimK_mass : ∀ (l : List Tree), massK (trimK l) ≤ massK l
  | [] => by simp [trimK]
  | x :: r => by
    have := trimK_mass r
    simp only [trimK]
    split
    · split
      · simp [massK]
      · simp [massK]
    · rename_i h
      rw [h] at this
      simp only [massK] at *
      omega
mutual
theorem normT_mass : ∀ (t : Tree), mass (normT t) ≤ mass t
  | .mk k w ks => by
    have h1 := normK_mass ks
    have h2 := trim_len w
    have h3 := trimK_mass (normK ks)
    simp only [normT]
    split
    · simp only [Tree.nil, mass, massK, List.length_nil]; omega
    · split
      · simp only [mass]; omega
      · simp only [mass]; omega
theorem normK_mass : ∀ (ks : List Tree), massK (normK ks) ≤ massK ks
  | [] => by simp [normK]
  | t :: r => by
    have h1 := normT_mass t
    have h2 := normK_mass r
    simp only [normK, massK]
    omega
end
theorem normK_app : ∀ (l : List Tree) (x : Tree), normK (l ++ [x]) = normK l ++ [normT x]
  | [], x => rfl
  | y :: r, x => by simp only [List.cons_append, normK, normK_app r x]
theorem normK_len : ∀ (l : List Tree), (normK l).length = l.length
  | [] => rfl
  | y :: r => by simp only [normK, List.length_cons, normK_len r]
theorem trimK_zero {x : Tree} (hx : x.kind = 0) : ∀ (l : List Tree), trimK (l ++ [x]) = trimK l
  | [] => by simp [trimK, hx]
  | y :: r => by
    show (match trimK (r ++ [x]) with | [] => if y.kind = 0 then [] else [y] | z :: s => y :: z :: s) = _
    rw [trimK_zero hx r]
    rfl
theorem trimK_ne {x : Tree} (hx : x.kind ≠ 0) : ∀ (l : List Tree), trimK (l ++ [x]) = l ++ [x]
  | [] => by simp [trimK, hx]
  | y :: r => by
    show (match trimK (r ++ [x]) with | [] => if y.kind = 0 then [] else [y] | z :: s => y :: z :: s) = _
    rw [trimK_ne hx r]
    cases r <;> rfl
theorem takeT_next {l : List Tree} {i : Int} (h0 : 0 ≤ i) (hi : i < l.length) : l.take (i + 1).toNat = l.take i.toNat ++ [l.getD i.toNat Tree.nil] := by
  have e : (i + 1).toNat = i.toNat + 1 := by omega
  rw [e, List.take_add_one]
  simp only [List.getD, List.getElem?_eq_getElem (show i.toNat < l.length by omega), Option.toList, Option.getD_some]
theorem last_eq {l : List Int} (h0 : 0 < (l.length : Int)) : l = l.take ((l.length : Int) - 1).toNat ++ [l.getD ((l.length : Int) - 1).toNat 0] := by
  have := take_last h0 (Int.le_refl _)
  rw [List.take_of_length_le (by omega)] at this
  exact this
theorem lastT_eq {l : List Tree} (h0 : 0 < (l.length : Int)) : l = l.take ((l.length : Int) - 1).toNat ++ [l.getD ((l.length : Int) - 1).toNat Tree.nil] := by
  have := takeT_next (l := l) (i := (l.length : Int) - 1) (by omega) (by omega)
  rw [List.take_of_length_le (by omega)] at this
  exact this
theorem trim_step {l : List Int} (h0 : 0 < (l.length : Int)) (hz : l.getD ((l.length : Int) - 1).toNat 0 = 0) : trim (l.take ((l.length : Int) - 1).toNat) = trim l := by
  have e := trim_zero (l.take ((l.length : Int) - 1).toNat)
  have h := last_eq h0
  rw [hz] at h
  rw [← h] at e
  exact e.symm
theorem trim_done {l : List Int} (h : ¬ 0 < (l.length : Int) ∨ ¬ l.getD ((l.length : Int) - 1).toNat 0 = 0) : trim l = l := by
  by_cases h0 : 0 < (l.length : Int)
  · have e := trim_ne (x := l.getD ((l.length : Int) - 1).toNat 0) (by rcases h with h | h; exact absurd h0 h; exact h) (l.take ((l.length : Int) - 1).toNat)
    rw [← last_eq h0] at e
    exact e
  · have : l = [] := List.eq_nil_of_length_eq_zero (by omega)
    subst this
    rfl
theorem trimK_step {l : List Tree} (h0 : 0 < (l.length : Int)) (hz : (l.getD ((l.length : Int) - 1).toNat Tree.nil).kind = 0) : trimK (l.take ((l.length : Int) - 1).toNat) = trimK l := by
  have e := trimK_zero hz (l.take ((l.length : Int) - 1).toNat)
  rw [← lastT_eq h0] at e
  exact e.symm
theorem trimK_done {l : List Tree} (h : ¬ 0 < (l.length : Int) ∨ ¬ (l.getD ((l.length : Int) - 1).toNat Tree.nil).kind = 0) : trimK l = l := by
  by_cases h0 : 0 < (l.length : Int)
  · have e := trimK_ne (x := l.getD ((l.length : Int) - 1).toNat Tree.nil) (by rcases h with h | h; exact absurd h0 h; exact h) (l.take ((l.length : Int) - 1).toNat)
    rw [← lastT_eq h0] at e
    exact e
  · have : l = [] := List.eq_nil_of_length_eq_zero (by omega)
    subst this
    rfl
theorem c24 : Contract Try.prog cfg 24 spec24 := by
  refine make24 c37 ?_
  rintro N ⟨k, ws, ks⟩ _ hp hN
  have hlen := massK_len ks
  simp only [pre24, mu24, mass] at hp hN
  refine vc24 N _ _ ?_
  (simp only [vcS])
  (simp only [Tree.eta, Tree.kind_mk, Tree.words_mk, Tree.kids_mk])
  refine ⟨fun hc => ?_, fun hc0 => ⟨by simp only [pre37]; omega, ?_⟩⟩
  · have e : normT (.mk k ws ks) = Tree.nil := by simp [normT, hc]
    simp only [res24, e]
    exact ⟨⟨rfl, ⟨⟨rfl, rfl⟩, ⟨rfl, ⟨rfl, trivial⟩⟩⟩, trivial⟩, trivial⟩
  · refine loop_rule (ι := Int × List Tree) (fun p => head24_0 (.mk k ws ks) p.1 p.2) (fun p => 0 ≤ p.1 ∧ p.1 ≤ ks.length ∧ p.2 = normK (ks.take p.1.toNat)) (fun p => ((ks.length : Int) - p.1).toNat) (0, []) rfl ⟨by dsimp only; omega, by dsimp only; omega, rfl⟩ ?_
    rintro ⟨i, l⟩ ⟨h1, h2, h5⟩
    dsimp only at *
    have hl : l.length = i.toNat := by rw [h5, normK_len, List.length_take]; omega
    refine vc24_l0 N _ _ _ _ _ ?_
    (simp only [vcS])
    (simp only [Tree.eta, Tree.kind_mk, Tree.words_mk, Tree.kids_mk])
    refine ⟨fun hc => ?_, fun hc => ⟨fun hk => ?_, fun hk => ?_⟩⟩
    · have hm := massK_get (ks := ks) (i := i.toNat) (by omega)
      have hnx : normK (ks.take (i + 1).toNat) = l ++ [normT (ks.getD i.toNat Tree.nil)] := by rw [takeT_next h1 hc, normK_app, h5]
      exact ⟨by omega, by simp only [pre24]; omega, by simp only [mu24]; omega, by simp only [List.length_cons, List.length_nil]; omega, by unfold InR; omega, (i + 1, _), rfl, ⟨by dsimp only; omega, by dsimp only; omega, hnx.symm⟩, by dsimp only; omega⟩
    · have hi : ks.take i.toNat = ks := List.take_of_length_le (by omega)
      rw [hi] at h5
      refine loop_rule (ι := List Int) (fun p => head24_1 (.mk k ws ks) l p) (fun p => p.length ≤ ws.length ∧ trim p = trim ws) (fun p => p.length) ws rfl ⟨by omega, rfl⟩ ?_
      rintro w ⟨h6, h7⟩
      refine vc24_l1 N _ _ _ _ _ ?_
      (simp only [vcS])
      refine ⟨id, id, id, id, fun h => by unfold InR; omega, id, id, fun h => by omega, id, id, id, fun hc => ⟨by unfold InR; omega, by omega, _, rfl, ⟨by rw [List.length_take]; omega, ?_⟩, by rw [List.length_take]; omega⟩, fun hc => ?_⟩
      · rw [trim_step hc.1 hc.2, h7]
      · have hw : w = trim ws := by rw [← h7, trim_done hc]
        refine loop_rule (ι := List Tree) (fun p => head24_2 (.mk k ws ks) w p) (fun p => p.length ≤ l.length ∧ trimK p = trimK l) (fun p => p.length) l rfl ⟨by omega, rfl⟩ ?_
        rintro q ⟨h8, h9⟩
        refine vc24_l2 N _ _ _ _ _ ?_
        (simp only [vcS])
        refine ⟨id, id, id, id, fun h => by unfold InR; omega, id, id, fun h => by omega, id, id, id, id, fun hc => ⟨by unfold InR; omega, by omega, _, rfl, ⟨by rw [List.length_take]; omega, ?_⟩, by rw [List.length_take]; omega⟩, fun hc => ?_⟩
        · rw [trimK_step hc.1 hc.2, h9]
        · have hq : q = trimK (normK ks) := by rw [← h5, ← h9, trimK_done hc]
          have e : normT (.mk k ws ks) = .mk k w q := by
            subst hk
            simp only [normT, hw, hq]
            rfl
          simp only [res24, e]
          exact ⟨⟨rfl, ⟨⟨rfl, rfl⟩, ⟨rfl, trivial⟩, ⟨rfl, trivial⟩, trivial⟩, trivial⟩, trivial⟩
    · have hi : ks.take i.toNat = ks := List.take_of_length_le (by omega)
      rw [hi] at h5
      have e : normT (.mk k ws ks) = .mk k ws l := by simp only [normT, if_neg hc0, if_neg hk, h5]
      simp only [res24, e]
      exact ⟨⟨rfl, ⟨⟨rfl, rfl⟩, ⟨rfl, trivial⟩, ⟨rfl, trivial⟩, trivial⟩, trivial⟩, trivial⟩
end Go.AM.Ytcljdbpmjdgooaa

namespace Go.AM.Ytcljdbpmjdgooaa
open Go.AM Go.Proofs
def frW : List Tree → Nat
  | [] => 0
  | t :: r => max t.words.length (frW r)
def frK : List Tree → Nat
  | [] => 0
  | t :: r => max t.kids.length (frK r)
mutual
def sizeN : Tree → Nat
  | .mk k w ks =>
    if k = 1 then w.length + ks.length + sizeK ks
    else if k = 8 then ks.length + sizeK ks
    else if k = 9 then 1 + ks.length * (frW ks + frK ks) + sizeR ks
    else if 2 ≤ k ∧ k ≤ 7 then (roomW (k - 2) ks.length).toNat
    else sizeK ks
def sizeK : List Tree → Nat
  | [] => 0
  | t :: r => sizeN t + sizeK r
def sizeR : List Tree → Nat
  | [] => 0
  | .mk _ _ ks :: r => sizeK ks + sizeR r
end
def ptrP (a to kind up : Int) : Int := 4 * ((to - a - 1) % 1073741824) + kind + 4294967296 * up
def headP (a to : Int) : Tree → Int
  | .mk k w ks =>
    if k = 0 then 0
    else if k = 1 then ptrP a (if w.length + ks.length = 0 then a else to) 0 (w.length + 65536 * ks.length)
    else if k = 8 then ptrP a to 1 (6 + 8 * ks.length)
    else if k = 9 then ptrP a to 1 (7 + 8 * (ks.length * (frW ks + frK ks) : Nat))
    else ptrP a to 1 (k - 2 + 8 * ks.length)
def tagP (n fw fk : Nat) : Int := 4 * n + 4294967296 * (fw + 65536 * fk)
def numsP (ks : List Tree) : List Int := ks.map fun t => t.words.getD 0 0
mutual
def blkP : Tree → Int → List Int
  | .mk k w ks, to =>
    if k = 0 then []
    else if k = 1 then w ++ ((kidsP ks (to + w.length) (to + w.length + ks.length)).1 ++ (kidsP ks (to + w.length) (to + w.length + ks.length)).2)
    else if k = 8 then (kidsP ks to (to + ks.length)).1 ++ (kidsP ks to (to + ks.length)).2
    else if k = 9 then tagP ks.length (frW ks) (frK ks) :: ((rowsP (frW ks) (frK ks) ks (to + 1) (to + 1 + (ks.length * (frW ks + frK ks) : Nat))).1 ++ (rowsP (frW ks) (frK ks) ks (to + 1) (to + 1 + (ks.length * (frW ks + frK ks) : Nat))).2)
    else putR (k - 2) (numsP ks)
def kidsP : List Tree → Int → Int → List Int × List Int
  | [], _, _ => ([], [])
  | t :: r, a, to => (headP a to t :: (kidsP r (a + 1) (to + (blkP t to).length)).1, blkP t to ++ (kidsP r (a + 1) (to + (blkP t to).length)).2)
def rowsP (fw fk : Nat) : List Tree → Int → Int → List Int × List Int
  | [], _, _ => ([], [])
  | .mk _ w ks :: r, a, to =>
    (w ++ (List.replicate (fw - w.length) 0 ++ ((kidsP ks (a + fw) to).1 ++ (List.replicate (fk - ks.length) 0 ++ (rowsP fw fk r (a + (fw + fk)) (to + (kidsP ks (a + fw) to).2.length)).1))),
      (kidsP ks (a + fw) to).2 ++ (rowsP fw fk r (a + (fw + fk)) (to + (kidsP ks (a + fw) to).2.length)).2)
end
def layP (l : List Int) (a : Int) (t : Tree) : List Int := if t.kind = 0 then l else l.set a.toNat (headP a l.length t) ++ blkP t l.length
def encP (t : Tree) (most : Int) : List Int × Bool :=
  if rightT t 64 = true ∧ t.kind ≠ 10 then
    if (sizeN (normT t) : Int) < most ∧ sizeN (normT t) < 131072 then (layP [0] 0 (normT t), true) else ([], false)
  else ([], false)
end Go.AM.Ytcljdbpmjdgooaa

namespace Go.AM.Ytcljdbpmjdgooaa
open Go.AM Go.Proofs
def newA (size most : Int) : Arena := ⟨[], max size 1, min (max most 0) 131072, 0⟩
def growA (a : Arena) (s n : Int) : Arena := ⟨a.segs.set s.toNat (segAt a.segs s ++ List.replicate n.toNat 0), a.size, a.most, a.used + n⟩
def roomA (a : Arena) (s n : Int) : Bool := decide (n ≤ a.size - ((segAt a.segs s).length : Int))
def inOk (a : Arena) (s n : Int) : Bool := decide (0 ≤ s ∧ s < (a.segs.length : Int) ∧ 0 ≤ n ∧ n ≤ a.most - a.used) && roomA a s n
def inA (a : Arena) (s n : Int) : Arena := if inOk a s n then growA a s n else a
def giveOk (a : Arena) (n : Int) : Bool := decide (0 ≤ n ∧ n ≤ a.most - a.used)
def openA (a : Arena) (n : Int) : Arena := if a.segs.length = 0 ∨ (roomA a ((a.segs.length : Int) - 1) n = false ∧ a.segs.length < 16) then ⟨a.segs ++ [[]], a.size, a.most, a.used⟩ else a
def giveS (a : Arena) (n : Int) : Int := ((openA a n).segs.length : Int) - 1
def giveT (a : Arena) (n : Int) : Int := ((segAt (openA a n).segs (giveS a n)).length : Int)
def giveA (a : Arena) (n : Int) : Arena := if giveOk a n then growA (openA a n) (giveS a n) n else a
def putA (a : Arena) (s at_ w : Int) : Arena := if hasN a.segs s at_ 1 then ⟨a.segs.set s.toNat ((segAt a.segs s).set at_.toNat w), a.size, a.most, a.used⟩ else a
structure OkAr (a : Arena) : Prop where
  used : 0 ≤ a.used ∧ a.used ≤ a.most ∧ a.most ≤ 131072
  size : 1 ≤ a.size ∧ a.size < 9223372036854775808
  few : a.segs.length ≤ 16
  segs : ∀ l ∈ a.segs, (l.length : Int) ≤ a.used ∧ ∀ x ∈ l, 0 ≤ x ∧ x < 18446744073709551616
def arO : Option Arena → Arena
  | none => newA 1 0
  | some y => y
end Go.AM.Ytcljdbpmjdgooaa

namespace Go.AM.Ytcljdbpmjdgooaa
open Go.AM Go.Proofs
theorem kidsP_len : ∀ (ks : List Tree) (a to : Int), (kidsP ks a to).1.length = ks.length
  | [], _, _ => by rw [kidsP]; rfl
  | t :: r, a, to => by rw [kidsP, List.length_cons, List.length_cons, kidsP_len r]
theorem kidsP_snoc : ∀ (ks : List Tree) (t : Tree) (a to : Int),
    kidsP (ks ++ [t]) a to = ((kidsP ks a to).1 ++ [headP (a + ks.length) (to + (kidsP ks a to).2.length) t], (kidsP ks a to).2 ++ blkP t (to + (kidsP ks a to).2.length))
  | [], t, a, to => by simp [kidsP]
  | k :: r, t, a, to => by
    rw [List.cons_append, kidsP, kidsP_snoc r t, kidsP]
    rw [show a + 1 + (r.length : Int) = a + ((k :: r : List Tree).length : Nat) by rw [List.length_cons]; omega,
      show to + ((blkP k to).length : Int) + ((kidsP r (a + 1) (to + (blkP k to).length)).2.length : Int) = to + ((blkP k to ++ (kidsP r (a + 1) (to + (blkP k to).length)).2).length : Nat) by rw [List.length_append]; omega]
    simp only [List.cons_append, List.append_assoc]
def kidsSt (A S : List Int) (ks : List Tree) (to : Int) (i : Nat) : List Int :=
  A ++ ((kidsP (ks.take i) A.length to).1 ++ (List.replicate (ks.length - i) 0 ++ (S ++ (kidsP (ks.take i) A.length to).2)))
theorem take_snoc {ks : List Tree} {i : Nat} (h : i < ks.length) : ks.take (i + 1) = ks.take i ++ [ks.getD i Tree.nil] := by
  rw [List.getD_eq_getElem?_getD, List.getElem?_eq_getElem h, Option.getD_some]
  exact (List.take_append_getElem h).symm
theorem kidsSt_len (A S : List Int) (ks : List Tree) (to : Int) {i : Nat} (h : i ≤ ks.length) : (kidsSt A S ks to i).length = A.length + ks.length + S.length + (kidsP (ks.take i) A.length to).2.length := by
  unfold kidsSt
  simp only [List.length_append, List.length_replicate, kidsP_len, List.length_take]
  omega
theorem kids_step {A S : List Int} {ks : List Tree} {i : Nat} (h : i < ks.length) :
    layP (kidsSt A S ks (A.length + ks.length + S.length : Nat) i) (A.length + i) (ks.getD i Tree.nil) = kidsSt A S ks (A.length + ks.length + S.length : Nat) (i + 1) := by
  have hl := kidsSt_len A S ks (A.length + ks.length + S.length : Nat) (Nat.le_of_lt h)
  generalize ht : ks.getD i Tree.nil = t
  have hz : List.replicate (ks.length - i) (0 : Int) = 0 :: List.replicate (ks.length - (i + 1)) 0 := by
    rw [← List.replicate_succ]; congr 1; omega
  have htk : (ks.take i).length = i := by rw [List.length_take]; omega
  have hsn : kidsSt A S ks (A.length + ks.length + S.length : Nat) (i + 1) =
      A ++ ((kidsP (ks.take i) A.length (A.length + ks.length + S.length : Nat)).1 ++ (headP (A.length + i) (kidsSt A S ks (A.length + ks.length + S.length : Nat) i).length t ::
        (List.replicate (ks.length - (i + 1)) 0 ++ (S ++ ((kidsP (ks.take i) A.length (A.length + ks.length + S.length : Nat)).2 ++ blkP t (kidsSt A S ks (A.length + ks.length + S.length : Nat) i).length))))) := by
    rw [hl]
    conv => lhs; unfold kidsSt
    rw [take_snoc h, kidsP_snoc, ht, htk]
    simp only [List.append_assoc, List.singleton_append, Int.natCast_add]
  rw [hsn]
  have hset : (kidsSt A S ks (A.length + ks.length + S.length : Nat) i).set (A.length + i) (headP (A.length + i) (kidsSt A S ks (A.length + ks.length + S.length : Nat) i).length t) =
      A ++ ((kidsP (ks.take i) A.length (A.length + ks.length + S.length : Nat)).1 ++ (headP (A.length + i) (kidsSt A S ks (A.length + ks.length + S.length : Nat) i).length t :: (List.replicate (ks.length - (i + 1)) 0 ++ (S ++ (kidsP (ks.take i) A.length (A.length + ks.length + S.length : Nat)).2)))) := by
    generalize headP (A.length + i) (kidsSt A S ks (A.length + ks.length + S.length : Nat) i).length t = x
    unfold kidsSt
    rw [hz, List.set_append_right _ _ (by omega), List.set_append_right _ _ (by rw [kidsP_len, htk]; omega), kidsP_len, htk, show A.length + i - A.length - i = 0 by omega]
    rfl
  unfold layP
  rw [show ((A.length : Int) + (i : Int)).toNat = A.length + i by omega]
  by_cases h0 : t.kind = 0
  · rw [if_pos h0]
    have hh : headP (A.length + i) (kidsSt A S ks (A.length + ks.length + S.length : Nat) i).length t = 0 := by cases t; exact if_pos h0
    have hb : ∀ to, blkP t to = [] := by intro to; cases t; rw [blkP]; exact if_pos h0
    rw [hh, hb, List.append_nil]
    unfold kidsSt
    rw [hz]
    rfl
  · rw [if_neg h0, hset]
    simp only [List.append_assoc, List.cons_append]
theorem kidsSt_zero (A S : List Int) (ks : List Tree) (to : Int) : kidsSt A S ks to 0 = A ++ (List.replicate ks.length 0 ++ S) := by
  unfold kidsSt
  simp [kidsP]
theorem kidsSt_all (A S : List Int) (ks : List Tree) (to : Int) : kidsSt A S ks to ks.length = A ++ ((kidsP ks A.length to).1 ++ (S ++ (kidsP ks A.length to).2)) := by
  unfold kidsSt
  simp
theorem rowsP_len {fw fk : Nat} : ∀ (ks : List Tree) (a to : Int), (∀ t ∈ ks, t.words.length ≤ fw ∧ t.kids.length ≤ fk) → (rowsP fw fk ks a to).1.length = ks.length * (fw + fk)
  | [], _, _, _ => by rw [rowsP]; simp
  | .mk k w l :: r, a, to, h => by
    have h1 : w.length ≤ fw ∧ l.length ≤ fk := h _ List.mem_cons_self
    rw [rowsP]
    simp only [List.length_append, List.length_replicate, kidsP_len, List.length_cons]
    rw [rowsP_len r _ _ fun t ht => h t (List.mem_cons_of_mem _ ht), Nat.add_mul]
    omega
theorem rowsP_snoc {fw fk : Nat} : ∀ (ks : List Tree) (t : Tree) (a to : Int),
    rowsP fw fk (ks ++ [t]) a to = ((rowsP fw fk ks a to).1 ++ (t.words ++ (List.replicate (fw - t.words.length) 0 ++ ((kidsP t.kids (a + (ks.length * (fw + fk) : Nat) + fw) (to + (rowsP fw fk ks a to).2.length)).1 ++ List.replicate (fk - t.kids.length) 0))),
      (rowsP fw fk ks a to).2 ++ (kidsP t.kids (a + (ks.length * (fw + fk) : Nat) + fw) (to + (rowsP fw fk ks a to).2.length)).2)
  | [], .mk k w l, a, to => by simp [rowsP]
  | .mk k w l :: r, t, a, to => by
    rw [List.cons_append, rowsP, rowsP_snoc r t, rowsP]
    have e1 : a + ((fw : Int) + fk) + (r.length * (fw + fk) : Nat) + fw = a + (((.mk k w l :: r : List Tree).length * (fw + fk) : Nat)) + fw := by
      rw [List.length_cons, Nat.add_mul]; omega
    have e2 : to + ((kidsP l (a + fw) to).2.length : Int) + ((rowsP fw fk r (a + (fw + fk)) (to + (kidsP l (a + fw) to).2.length)).2.length : Int) =
        to + ((((kidsP l (a + fw) to).2 ++ (rowsP fw fk r (a + (fw + fk)) (to + (kidsP l (a + fw) to).2.length)).2).length : Nat) : Int) := by
      rw [List.length_append]; omega
    rw [e1, e2]
    simp only [List.append_assoc]
theorem frW_le : ∀ {ks : List Tree} {t : Tree}, t ∈ ks → t.words.length ≤ frW ks ∧ t.kids.length ≤ frK ks
  | k :: r, t, h => by
    rw [frW, frK]
    rcases List.mem_cons.1 h with rfl | h
    · omega
    · have := frW_le h; omega
theorem rightK_mem {i : Int} : ∀ {ks : List Tree} {d : Int} {t : Tree}, rightK i ks d = true → t ∈ ks → kidB i t = true ∧ rightT t d = true
  | k :: r, d, t, h, ht => by
    rw [rightK, Bool.and_eq_true, Bool.and_eq_true] at h
    rcases List.mem_cons.1 ht with rfl | ht
    · exact h.1
    · exact rightK_mem h.2 ht
structure RiT (k : Int) (w : List Int) (ks : List Tree) (d : Int) : Prop where
  kind : 0 ≤ k ∧ k ≤ 10
  nil : k = 0 → w = [] ∧ ks = []
  atom : k = 10 → w.length = 1 ∧ ks = []
  stru : k = 1 → w.length < 65536 ∧ ks.length < 65536
  list : k ≠ 1 → k ≠ 10 → w = []
  len : ks.length < 1048576
  kids : ∀ t ∈ ks, rightT t (d - 1) = true ∧ (k ≠ 1 → kidB k t = true) ∧ (k = 1 ∨ k = 8 → t.kind ≠ 10) ∧ (k = 9 → t.kind = 1)
  data : 2 ≤ k → k ≤ 7 → fitsA (k - 2) (numsP ks) = true ∧ ∀ t ∈ ks, t.kind = 10 ∧ t.kids.length = 0 ∧ t.words.length = 1
theorem riT {k : Int} {w : List Int} {ks : List Tree} {d : Int} (h : rightT (.mk k w ks) d = true) : RiT k w ks d := by
  rw [rightT] at h
  split at h
  · rename_i h0
    have := of_decide_eq_true h
    have h1 := List.length_eq_zero_iff.1 this.1
    have h2 := List.length_eq_zero_iff.1 this.2
    subst h1 h2
    exact ⟨by omega, fun _ => ⟨rfl, rfl⟩, by omega, by omega, fun _ _ => rfl, by simp, fun t ht => (by cases ht), by omega⟩
  · split at h
    · have := of_decide_eq_true h
      have h2 := List.length_eq_zero_iff.1 this.2
      subst h2
      exact ⟨by omega, by omega, fun _ => ⟨this.1, rfl⟩, by omega, by omega, by simp, fun t ht => (by cases ht), by omega⟩
    · split at h
      · cases h
      · split at h
        · rename_i h1
          rw [Bool.and_eq_true] at h
          have hw := of_decide_eq_true h.1
          refine ⟨by omega, by omega, by omega, fun _ => hw, by omega, by omega, fun t ht => ?_, by omega⟩
          have := rightK_mem h.2 ht
          refine ⟨this.2, by omega, fun _ => ?_, by omega⟩
          have hb := this.1
          unfold kidB at hb
          rw [if_neg (by omega), if_neg (by omega)] at hb
          exact of_decide_eq_true hb
        · rename_i h1
          rw [Bool.and_eq_true] at h
          have hw := of_decide_eq_true h.1
          refine ⟨by omega, by omega, by omega, by omega, fun _ _ => List.length_eq_zero_iff.1 hw.2.2.1, by omega, fun t ht => ?_, fun h2 h7 => ?_⟩
          · have := rightK_mem h.2 ht
            refine ⟨this.2, fun _ => this.1, fun h8 => ?_, fun h9 => ?_⟩
            · have hb := this.1
              unfold kidB at hb
              rw [if_neg (by omega), if_neg (by omega)] at hb
              exact of_decide_eq_true hb
            · have hb := this.1
              unfold kidB at hb
              rw [if_neg (by omega), if_pos h9] at hb
              exact of_decide_eq_true hb
          · have hk : ∀ t ∈ ks, (t.kind = 10 ∧ t.kids.length = 0 ∧ t.words.length = 1) ∧ fits (k - 2) (t.words.getD 0 0) = true := fun t ht => by
              have hb := (rightK_mem h.2 ht).1
              unfold kidB at hb
              rw [if_pos ⟨h2, h7⟩, Bool.and_eq_true] at hb
              exact ⟨of_decide_eq_true hb.1, hb.2⟩
            refine ⟨?_, fun t ht => (hk t ht).1⟩
            unfold fitsA
            rw [Bool.and_eq_true]
            refine ⟨decide_eq_true ?_, List.all_eq_true.2 fun x hx => ?_⟩
            · unfold wd; repeat' split
              all_goals omega
            · obtain ⟨t, ht, rfl⟩ := List.mem_map.1 hx
              exact (hk t ht).2
mutual
theorem blkP_len : ∀ (t : Tree) (d to : Int), rightT t d = true → t.kind ≠ 10 → (blkP t to).length = sizeN t
  | .mk k w ks, d, to, h, h10 => by
    have hr := riT h
    have h10 : k ≠ 10 := h10
    rw [blkP, sizeN]
    split
    · rename_i h0
      subst h0
      rw [if_neg (by decide), if_neg (by decide), if_neg (by decide), if_neg (by decide), (hr.nil rfl).2]
      rfl
    · rename_i h0
      split
      · rename_i h1
        rw [List.length_append, List.length_append, kidsP_len, kidsP_blk ks (d - 1) _ _ fun t ht => ⟨(hr.kids t ht).1, (hr.kids t ht).2.2.1 (.inl h1)⟩]
        omega
      · split
        · rename_i h8
          rw [List.length_append, kidsP_len, kidsP_blk ks (d - 1) _ _ fun t ht => ⟨(hr.kids t ht).1, (hr.kids t ht).2.2.1 (.inr h8)⟩]
        · split
          · rename_i h9
            rw [List.length_cons, List.length_append, rowsP_len ks _ _ fun t ht => frW_le ht, rowsP_blk (frW ks) (frK ks) ks (d - 1) _ _ fun t ht => ⟨(hr.kids t ht).1, (hr.kids t ht).2.2.2 h9⟩]
            omega
          · have hk := hr.kind
            rw [if_pos (by omega)]
            unfold putR
            rw [if_pos (hr.data (by omega) (by omega)).1, putW_len, numsP, List.length_map]
theorem kidsP_blk : ∀ (ks : List Tree) (d a to : Int), (∀ t ∈ ks, rightT t d = true ∧ t.kind ≠ 10) → (kidsP ks a to).2.length = sizeK ks
  | [], _, _, _, _ => by rw [kidsP, sizeK]; rfl
  | t :: r, d, a, to, h => by
    have h1 := h t List.mem_cons_self
    rw [kidsP, sizeK, List.length_append, blkP_len t d to h1.1 h1.2, kidsP_blk r d _ _ fun t ht => h t (List.mem_cons_of_mem _ ht)]
theorem rowsP_blk (fw fk : Nat) : ∀ (ks : List Tree) (d a to : Int), (∀ t ∈ ks, rightT t d = true ∧ t.kind = 1) → (rowsP fw fk ks a to).2.length = sizeR ks
  | [], _, _, _, _ => by rw [rowsP, sizeR]; rfl
  | .mk k w l :: r, d, a, to, h => by
    have h1 := h _ List.mem_cons_self
    have h1k : k = 1 := h1.2
    have hr := riT h1.1
    rw [rowsP, sizeR, List.length_append, kidsP_blk l (d - 1) _ _ fun t ht => ⟨(hr.kids t ht).1, (hr.kids t ht).2.2.1 (.inl h1k)⟩, rowsP_blk fw fk r d _ _ fun t ht => h t (List.mem_cons_of_mem _ ht)]
end
end Go.AM.Ytcljdbpmjdgooaa

namespace Go.AM.Ytcljdbpmjdgooaa
open Go.AM Go.Proofs
def zs (n : Nat) : List Int := List.replicate n 0
@[simp] theorem zs_len (n : Nat) : (zs n).length = n := by simp [zs]
theorem zs_add (n m : Nat) : zs (n + m) = zs n ++ zs m := by rw [zs, zs, zs, List.replicate_append_replicate]
def rowSt (A R : List Int) (fw fk : Nat) (ks : List Tree) (i : Nat) : List Int :=
  A ++ ((rowsP fw fk (ks.take i) A.length (A.length + ks.length * (fw + fk) : Nat)).1 ++ (R ++ (rowsP fw fk (ks.take i) A.length (A.length + ks.length * (fw + fk) : Nat)).2))
def rowA (A : List Int) (fw fk : Nat) (ks : List Tree) (i : Nat) : List Int :=
  A ++ ((rowsP fw fk (ks.take i) A.length (A.length + ks.length * (fw + fk) : Nat)).1 ++ ((ks.getD i Tree.nil).words ++ zs (fw - (ks.getD i Tree.nil).words.length)))
def rowS (A R : List Int) (fw fk : Nat) (ks : List Tree) (i : Nat) : List Int :=
  zs (fk - (ks.getD i Tree.nil).kids.length) ++ (R ++ (rowsP fw fk (ks.take i) A.length (A.length + ks.length * (fw + fk) : Nat)).2)
def Fit (fw fk : Nat) (ks : List Tree) : Prop := ∀ t ∈ ks, t.words.length ≤ fw ∧ t.kids.length ≤ fk
theorem Fit.get {fw fk : Nat} {ks : List Tree} (h : Fit fw fk ks) {i : Nat} (hi : i < ks.length) : (ks.getD i Tree.nil).words.length ≤ fw ∧ (ks.getD i Tree.nil).kids.length ≤ fk := by
  rw [List.getD_eq_getElem?_getD, List.getElem?_eq_getElem hi]
  exact h _ (List.getElem_mem hi)
theorem Fit.take {fw fk : Nat} {ks : List Tree} (h : Fit fw fk ks) (i : Nat) : Fit fw fk (ks.take i) := fun t ht => h t (List.mem_of_mem_take ht)
theorem rowA_len {A : List Int} {fw fk : Nat} {ks : List Tree} (h : Fit fw fk ks) {i : Nat} (hi : i < ks.length) : (rowA A fw fk ks i).length = A.length + i * (fw + fk) + fw := by
  have := h.get hi
  unfold rowA
  rw [List.length_append, List.length_append, List.length_append, zs_len, rowsP_len _ _ _ (h.take i), List.length_take, Nat.min_eq_left (by omega)]
  omega
theorem rowS_len {A R : List Int} {fw fk : Nat} {ks : List Tree} (h : Fit fw fk ks) {i : Nat} (hi : i < ks.length) (hR : R.length = (ks.length - (i + 1)) * (fw + fk)) :
    (rowA A fw fk ks i).length + (ks.getD i Tree.nil).kids.length + (rowS A R fw fk ks i).length = A.length + ks.length * (fw + fk) + (rowsP fw fk (ks.take i) A.length (A.length + ks.length * (fw + fk) : Nat)).2.length := by
  have := h.get hi
  have e : ks.length * (fw + fk) = i * (fw + fk) + (fw + fk) + (ks.length - (i + 1)) * (fw + fk) := by
    rw [← Nat.succ_mul, ← Nat.add_mul]; congr 1; omega
  rw [rowA_len h hi]
  unfold rowS
  rw [List.length_append, List.length_append, zs_len, hR]
  omega
theorem row_zero {A R : List Int} {fw fk : Nat} {ks : List Tree} (h : Fit fw fk ks) {i : Nat} (hi : i < ks.length) (to : Int) :
    kidsSt (rowA A fw fk ks i) (rowS A R fw fk ks i) (ks.getD i Tree.nil).kids to 0 = rowSt A ((ks.getD i Tree.nil).words ++ (zs (fw + fk - (ks.getD i Tree.nil).words.length) ++ R)) fw fk ks i := by
  have := h.get hi
  rw [kidsSt_zero]
  unfold rowA rowS rowSt
  rw [show fw + fk - (ks.getD i Tree.nil).words.length = fw - (ks.getD i Tree.nil).words.length + ((ks.getD i Tree.nil).kids.length + (fk - (ks.getD i Tree.nil).kids.length)) by omega, zs_add, zs_add]
  simp only [List.append_assoc, zs]
theorem row_all {A R : List Int} {fw fk : Nat} {ks : List Tree} (h : Fit fw fk ks) {i : Nat} (hi : i < ks.length) (hR : R.length = (ks.length - (i + 1)) * (fw + fk)) :
    kidsSt (rowA A fw fk ks i) (rowS A R fw fk ks i) (ks.getD i Tree.nil).kids ((rowA A fw fk ks i).length + (ks.getD i Tree.nil).kids.length + (rowS A R fw fk ks i).length : Nat) (ks.getD i Tree.nil).kids.length = rowSt A R fw fk ks (i + 1) := by
  rw [kidsSt_all, rowS_len h hi hR, rowA_len h hi]
  unfold rowA rowS rowSt
  rw [take_snoc hi, rowsP_snoc, List.length_take, Nat.min_eq_left (Nat.le_of_lt hi)]
  simp only [List.append_assoc, zs, Int.natCast_add]
end Go.AM.Ytcljdbpmjdgooaa

namespace Go.AM.Ytcljdbpmjdgooaa
open Go.AM Go.Proofs
def encW (p : Ptr) : Int :=
  if p.kind = 1 then (if (-536870912 ≤ p.off ∧ p.off < 536870912) ∧ (0 ≤ p.data ∧ p.data ≤ 65535) ∧ 0 ≤ p.ptrs ∧ p.ptrs ≤ 65535 then 4 * (p.off % 1073741824) + 4294967296 * (p.data + 65536 * p.ptrs) else 0)
  else if p.kind = 2 then (if (-536870912 ≤ p.off ∧ p.off < 536870912) ∧ (0 ≤ p.code ∧ p.code ≤ 7) ∧ 0 ≤ p.count ∧ p.count ≤ 536870911 then 4 * (p.off % 1073741824) + 1 + 4294967296 * (p.code + 8 * p.count) else 0)
  else if p.kind = 3 then (if (0 ≤ p.off ∧ p.off ≤ 536870911) ∧ 0 ≤ p.segment ∧ p.segment ≤ 4294967295 then 8 * p.off + 2 + (if p.double = true then 4 else 0) + 4294967296 * p.segment else 0)
  else 0
def eqP (p q : Ptr) : Bool := p.kind == q.kind && (p.off == q.off && (p.data == q.data && (p.ptrs == q.ptrs && (p.code == q.code && (p.count == q.count && (p.segment == q.segment && (p.double == q.double && true)))))))
theorem eqP_self (p : Ptr) : eqP p p = true := by simp [eqP]
theorem off_nxt {o : Int} (h : -536870912 ≤ o ∧ o < 536870912) : (if 536870912 ≤ o % 1073741824 then o % 1073741824 - 1073741824 else o % 1073741824) = o := by
  split <;> omega
theorem dec_struct {o d p : Int} (ho : -536870912 ≤ o ∧ o < 536870912) (hd : 0 ≤ d ∧ d < 65536) (hp : 0 ≤ p ∧ p < 65536) (hz : ¬(o = 0 ∧ d = 0 ∧ p = 0)) :
    decP (4 * (o % 1073741824) + 0 + 4294967296 * (d + 65536 * p)) = ⟨1, o, d, p, 0, 0, 0, false⟩ := by
  have e0 : (4 * (o % 1073741824) + 0 + 4294967296 * (d + 65536 * p)) / 4 % 1073741824 = o % 1073741824 := by omega
  unfold decP offP
  rw [if_neg (by omega), if_pos (by omega), e0, off_nxt ho]
  congr 1 <;> omega
theorem dec_list {o c n : Int} (ho : -536870912 ≤ o ∧ o < 536870912) (hc : 0 ≤ c ∧ c < 8) (hn : 0 ≤ n ∧ n < 536870912) :
    decP (4 * (o % 1073741824) + 1 + 4294967296 * (c + 8 * n)) = ⟨2, o, 0, 0, c, n, 0, false⟩ := by
  have e0 : (4 * (o % 1073741824) + 1 + 4294967296 * (c + 8 * n)) / 4 % 1073741824 = o % 1073741824 := by omega
  unfold decP offP
  rw [if_neg (by omega), if_neg (by omega), if_pos (by omega), e0, off_nxt ho]
  congr 1 <;> omega
def pntW (a to : Int) (p : Ptr) : Int :=
  if p.kind = 1 then ptrP a (if p.data + p.ptrs = 0 then a else to) 0 (p.data + 65536 * p.ptrs) else ptrP a to 1 (p.code + 8 * p.count)
def pntOk (p : Ptr) : Prop :=
  (p.kind = 1 ∧ (0 ≤ p.data ∧ p.data < 65536) ∧ (0 ≤ p.ptrs ∧ p.ptrs < 65536) ∧ p.code = 0 ∧ p.count = 0 ∨ p.kind = 2 ∧ p.data = 0 ∧ p.ptrs = 0 ∧ (0 ≤ p.code ∧ p.code < 8) ∧ 0 ≤ p.count ∧ p.count < 536870912) ∧ p.segment = 0 ∧ p.double = false
def pntP (a to : Int) (p : Ptr) : Ptr := ⟨p.kind, if p.kind = 1 ∧ p.data + p.ptrs = 0 then -1 else to - a - 1, p.data, p.ptrs, p.code, p.count, p.segment, p.double⟩
theorem pnt_enc {a to : Int} {p : Ptr} (h : pntOk p) (h0 : 0 ≤ a) (h1 : a < to) (h2 : to < 1000000000) (h3 : to - a < 500000000) : encW (pntP a to p) = pntW a to p ∧ decP (encW (pntP a to p)) = pntP a to p := by
  obtain ⟨k, o, d, q, c, n, s, b⟩ := p
  obtain ⟨h, hs, hb⟩ := h
  dsimp only at h hs hb
  subst hs hb
  rcases h with ⟨rfl, hd, hq, rfl, rfl⟩ | ⟨rfl, rfl, rfl, hc, hn⟩
  · have eo : (if (1 : Int) = 1 ∧ d + q = 0 then (-1 : Int) else to - a - 1) = if d + q = 0 then -1 else to - a - 1 := by simp
    have e : encW (pntP a to ⟨1, o, d, q, 0, 0, 0, false⟩) = 4 * ((if d + q = 0 then -1 else to - a - 1) % 1073741824) + 0 + 4294967296 * (d + 65536 * q) := by
      unfold encW pntP
      dsimp only
      rw [eo, if_pos rfl, if_pos ⟨by split <;> omega, by omega, by omega⟩]
      omega
    constructor
    · rw [e]
      unfold pntW ptrP
      dsimp only
      rw [if_pos rfl]
      split <;> omega
    · rw [e]
      unfold pntP
      dsimp only
      rw [eo, dec_struct (by split <;> omega) hd hq (by split <;> omega)]
  · have eo : (if (2 : Int) = 1 ∧ (0 : Int) + 0 = 0 then (-1 : Int) else to - a - 1) = to - a - 1 := if_neg (fun h => absurd h.1 (by decide))
    have e : encW (pntP a to ⟨2, o, 0, 0, c, n, 0, false⟩) = 4 * ((to - a - 1) % 1073741824) + 1 + 4294967296 * (c + 8 * n) := by
      unfold encW pntP
      dsimp only
      rw [eo, if_neg (by decide), if_pos rfl, if_pos ⟨by omega, by omega, by omega⟩]
    constructor
    · rw [e]
      unfold pntW ptrP
      dsimp only
      rw [if_neg (by decide)]
    · rw [e]
      unfold pntP
      dsimp only
      rw [eo, dec_list (by omega) hc hn]
def kidzR (l : List Int) (a : Int) (t : Tree) : List Int :=
  l.take a.toNat ++ ((kidsP t.kids a l.length).1 ++ (l.drop (a.toNat + t.kids.length) ++ (kidsP t.kids a l.length).2))
def strR (l : List Int) (a n : Int) (t : Tree) : List Int :=
  l.take a.toNat ++ (t.words ++ (zs (n.toNat - t.words.length) ++ ((kidsP t.kids (a + n) l.length).1 ++ (l.drop (a.toNat + n.toNat + t.kids.length) ++ (kidsP t.kids (a + n) l.length).2))))
def zsAt (l : List Int) (a n : Nat) : Prop := ∃ A S, l = A ++ (zs n ++ S) ∧ A.length = a
theorem zsAt_split {l : List Int} {a n : Nat} (h : zsAt l a n) : l = l.take a ++ (zs n ++ l.drop (a + n)) ∧ (l.take a).length = a ∧ a + n ≤ l.length := by
  obtain ⟨A, S, rfl, rfl⟩ := h
  refine ⟨?_, ?_, ?_⟩
  · rw [List.take_left, show A.length + n = (A ++ zs n).length by simp, ← List.append_assoc, List.drop_left, List.append_assoc]
  · rw [List.take_left]
  · simp
theorem kidzR_zero {l : List Int} {a : Nat} {t : Tree} (h : zsAt l a t.kids.length) : kidsSt (l.take a) (l.drop (a + t.kids.length)) t.kids l.length 0 = l := by
  obtain ⟨h1, h2, h3⟩ := zsAt_split h
  rw [kidsSt_zero]
  exact h1.symm
theorem kidzR_len {l : List Int} {a : Nat} {t : Tree} (h : zsAt l a t.kids.length) : (l.take a).length + t.kids.length + (l.drop (a + t.kids.length)).length = l.length := by
  obtain ⟨h1, h2, h3⟩ := zsAt_split h
  rw [h2, List.length_drop]
  omega
theorem kidzR_step {l : List Int} {a : Nat} {t : Tree} (h : zsAt l a t.kids.length) {i : Nat} (hi : i < t.kids.length) :
    layP (kidsSt (l.take a) (l.drop (a + t.kids.length)) t.kids l.length i) ((a : Int) + i) (t.kids.getD i Tree.nil) = kidsSt (l.take a) (l.drop (a + t.kids.length)) t.kids l.length (i + 1) := by
  have := kids_step (A := l.take a) (S := l.drop (a + t.kids.length)) hi
  rw [kidzR_len h, (zsAt_split h).2.1] at this
  exact this
theorem kidzR_all {l : List Int} {a : Nat} {t : Tree} (h : zsAt l a t.kids.length) : kidsSt (l.take a) (l.drop (a + t.kids.length)) t.kids l.length t.kids.length = kidzR l a t := by
  rw [kidsSt_all, (zsAt_split h).2.1]
  rfl
end Go.AM.Ytcljdbpmjdgooaa

namespace Go.AM.Ytcljdbpmjdgooaa
open Go.AM Go.Proofs
def putsA : List Int → Arena → Int → Int → Arena
  | [], a, _, _ => a
  | w :: r, a, s, i => putsA r (putA a s i w) s (i + 1)
def kdP (p : Ptr) : Int := if p.kind = 1 then 0 else 1
def upP (p : Ptr) : Int := if p.kind = 1 then p.data + 65536 * p.ptrs else p.code + 8 * p.count
def pwA (fr to k up : Int) : Int := if k = 0 ∧ up = 0 then 4294967292 else ptrP fr to k up
def farW (d : Bool) (s i : Int) : Int := 2 + (if d = true then 4 else 0) + 8 * i + 4294967296 * s
def endA (a : Arena) (s : Int) : Int := ((segAt a.segs s).length : Int)
def pointA (a : Arena) (s i s' i' k up : Int) : Arena × Bool :=
  if s = s' ∨ (k = 0 ∧ up = 0) then (putA a s i (pwA i i' k up), true)
  else if inOk a s' 1 then (putA (putA (inA a s' 1) s i (farW false s' (endA a s'))) s' (endA a s') (pwA (endA a s') i' k up), true)
  else if giveOk a 2 then (putA (putA (putA (giveA a 2) s i (farW true (giveS a 2) (giveT a 2))) (giveS a 2) (giveT a 2) (farW false s' i')) (giveS a 2) (giveT a 2 + 1) (k + 4294967296 * up), true)
  else (a, false)
def blockA (a : Arena) (s i n k up : Int) : Arena × Bool :=
  if giveOk a n then pointA (giveA a n) s i (giveS a n) (giveT a n) k up else (a, false)
def andA (b : Arena × Bool) (f : Arena → Arena × Bool) : Arena × Bool := bif b.2 then f b.1 else b
mutual
def layA : Tree → Arena → Int → Int → Arena × Bool
  | .mk k w ks, a, s, i =>
    if k = 0 then (a, true)
    else if k = 1 then andA (blockA a s i (w.length + ks.length) 0 (w.length + 65536 * ks.length)) fun b =>
      kidsA ks (putsA w b (giveS a (w.length + ks.length)) (giveT a (w.length + ks.length))) (giveS a (w.length + ks.length)) (giveT a (w.length + ks.length) + w.length)
    else if k = 8 then andA (blockA a s i ks.length 1 (6 + 8 * ks.length)) fun b => kidsA ks b (giveS a ks.length) (giveT a ks.length)
    else if k = 9 then andA (blockA a s i (1 + ks.length * ((frW ks : Int) + frK ks)) 1 (7 + 8 * (ks.length * ((frW ks : Int) + frK ks)))) fun b =>
      rowsA (frW ks) (frK ks) ks (putA b (giveS a (1 + ks.length * ((frW ks : Int) + frK ks))) (giveT a (1 + ks.length * ((frW ks : Int) + frK ks))) (tagP ks.length (frW ks) (frK ks)))
        (giveS a (1 + ks.length * ((frW ks : Int) + frK ks))) (giveT a (1 + ks.length * ((frW ks : Int) + frK ks)) + 1)
    else andA (blockA a s i (putR (k - 2) (numsP ks)).length 1 (k - 2 + 8 * ks.length)) fun b =>
      (putsA (putR (k - 2) (numsP ks)) b (giveS a (putR (k - 2) (numsP ks)).length) (giveT a (putR (k - 2) (numsP ks)).length), true)
def kidsA : List Tree → Arena → Int → Int → Arena × Bool
  | [], a, _, _ => (a, true)
  | t :: r, a, s, i => andA (layA t a s i) fun b => kidsA r b s (i + 1)
def rowsA (fw fk : Nat) : List Tree → Arena → Int → Int → Arena × Bool
  | [], a, _, _ => (a, true)
  | .mk _ w ks :: r, a, s, i => andA (kidsA ks (putsA w a s i) s (i + fw)) fun b => rowsA fw fk r b s (i + ((fw : Int) + fk))
end
def buildA (t : Tree) (size most : Int) : Arena × Bool :=
  if rightT t 64 = true ∧ t.kind ≠ 10 then
    if giveOk (newA size most) 1 then layA (normT t) (giveA (newA size most) 1) (giveS (newA size most) 1) (giveT (newA size most) 1) else (newA size most, false)
  else (newA size most, false)
end Go.AM.Ytcljdbpmjdgooaa

namespace Go.AM.Ytcljdbpmjdgooaa
open Go.AM Go.Proofs
abbrev TrEG1 (p : Prop) : Prop := p → p
def args71 : ArgL (Option Arena × Unit) := (.cons (aPo .arena) .nil)
def pre71 (a : Option Arena × Unit) : Prop := (∃ y, a.1 = some y ∧ OkAr y)
noncomputable def res71 (a : Option Arena × Unit) : V U := .c (.int .i64 ((arO a.1).most - (arO a.1).used))
noncomputable def spec71 : Fs U := fs args71 (fun a => [pre71 a]) res71
def args72 : ArgL (Option Arena × Int × Int × Unit) := (.cons (aPo .arena) (.cons (aInt .i64) (.cons (aInt .i64) .nil)))
def pre72 (a : Option Arena × Int × Int × Unit) : Prop := (∃ y, a.1 = some y ∧ OkAr y)
noncomputable def res72 (a : Option Arena × Int × Int × Unit) : V U := .c (.bool (roomA (arO a.1) a.2.1 a.2.2.1))
noncomputable def spec72 : Fs U := fs args72 (fun a => [pre72 a]) res72
def args73 : ArgM (Arena × Int × Int × Unit) := (.lst cAr (.cons (aInt .i64) (.cons (aInt .i64) .nil)))
def pre73 (a : Arena × Int × Int × Unit) : Prop := OkAr a.1 ∧ (0 ≤ a.2.1 ∧ a.2.1 < a.1.segs.length) ∧ 0 ≤ a.2.2.1 ∧ a.2.2.1 ≤ a.1.most - a.1.used
noncomputable def res73 (a : Arena × Int × Int × Unit) : V U := .c (.int .i64 ((segAt a.1.segs a.2.1).length : Int))
noncomputable def resX73 (a : Arena × Int × Int × Unit) : List (List (C U)) := []
noncomputable def resL73 (a : Arena × Int × Int × Unit) : List (Tok × LC U) := [(.A, LC.mk (U := U) .arena [growA a.1 a.2.1 a.2.2.1] 0)]
noncomputable def spec73 : Fs U := (fsXL args73 (fun a => [pre73 a]) res73 resX73 resL73).passing [0]
def args77 : ArgM (Arena × Int × Int × Unit) := (.lst cAr (.cons (aInt .i64) (.cons (aInt .i64) .nil)))
def pre77 (a : Arena × Int × Int × Unit) : Prop := OkAr a.1
noncomputable def res77 (a : Arena × Int × Int × Unit) : V U := .tup [(false, [.int .i64 (if inOk a.1 a.2.1 a.2.2.1 then ((segAt a.1.segs a.2.1).length : Int) else 0)]), (false, [.bool (inOk a.1 a.2.1 a.2.2.1)])]
noncomputable def resX77 (a : Arena × Int × Int × Unit) : List (List (C U)) := []
noncomputable def resL77 (a : Arena × Int × Int × Unit) : List (Tok × LC U) := [(.A, LC.mk (U := U) .arena [inA a.1 a.2.1 a.2.2.1] 0)]
noncomputable def spec77 : Fs U := (fsXL args77 (fun a => [pre77 a]) res77 resX77 resL77).passing [0]
def args40 : ArgM (Arena × Int × Unit) := (.lst cAr (.cons (aInt .i64) .nil))
def pre40 (a : Arena × Int × Unit) : Prop := OkAr a.1
noncomputable def res40 (a : Arena × Int × Unit) : V U := .tup [(false, [.int .i64 (if giveOk a.1 a.2.1 then giveS a.1 a.2.1 else 0)]), (false, [.int .i64 (if giveOk a.1 a.2.1 then giveT a.1 a.2.1 else 0)]), (false, [.bool (giveOk a.1 a.2.1)])]
noncomputable def resX40 (a : Arena × Int × Unit) : List (List (C U)) := []
noncomputable def resL40 (a : Arena × Int × Unit) : List (Tok × LC U) := [(.A, LC.mk (U := U) .arena [giveA a.1 a.2.1] 0)]
noncomputable def spec40 : Fs U := (fsXL args40 (fun a => [pre40 a]) res40 resX40 resL40).passing [0]
def args79 : ArgM (Arena × Int × Int × Int × Unit) := (.lst cAr (.cons (aInt .i64) (.cons (aInt .i64) (.cons (aInt .u64) .nil))))
def pre79 (a : Arena × Int × Int × Int × Unit) : Prop := OkAr a.1 ∧ 0 ≤ a.2.2.2.1 ∧ a.2.2.2.1 < 18446744073709551616
noncomputable def res79 (a : Arena × Int × Int × Int × Unit) : V U := .c (.bool (hasN a.1.segs a.2.1 a.2.2.1 1))
noncomputable def resX79 (a : Arena × Int × Int × Int × Unit) : List (List (C U)) := []
noncomputable def resL79 (a : Arena × Int × Int × Int × Unit) : List (Tok × LC U) := [(.A, LC.mk (U := U) .arena [putA a.1 a.2.1 a.2.2.1 a.2.2.2.1] 0)]
noncomputable def spec79 : Fs U := (fsXL args79 (fun a => [pre79 a]) res79 resX79 resL79).passing [0]
noncomputable def know71 : List (FuncId × Fs U) := []
def lv71 : Lives U := fun i => match i with
  | 0 => ([(0, [])], [])
  | 1 => ([(0, []), (4, [])], [])
  | 2 => ([(2, [])], [])
  | 3 => ([(2, [])], [])
  | _ => ([], [])
abbrev W71 (a : Option Arena) (Q : AExit → LSt U → Prop) := awp cfg (know know71) (drawOk cfg (know know71)) Try.f71.ntmps lv71 (cd Try.f71 []) (⟨[(0, .c (.po (U := U) .arena a))], [], []⟩ : LSt U) Q
theorem vc71 (a : Option Arena) (Q : AExit → LSt U → Prop) (h : ((Option.isNone a) = true → Q .ret (⟨[(2, .c (.int .i64 0))], [], []⟩ : LSt U)) ∧ ((Option.isNone a) = false → (Option.isSome a = true) ∧ (Option.isSome a = true) ∧ (Option.isSome a = true) ∧ (Option.isSome a = true) ∧ (InR (((Arena.most (Option.getD a (Arena.mk [] 0 0 0))) : Int) - (Arena.used (Option.getD a (Arena.mk [] 0 0 0))))) ∧ (Q .ret (⟨[(2, .c (.int .i64 (((Arena.most (Option.getD a (Arena.mk [] 0 0 0))) : Int) - (Arena.used (Option.getD a (Arena.mk [] 0 0 0))))))], [], []⟩ : LSt U)))) :
    W71 a Q := by
  have e_ : (W71 a Q) = (((((Option.isNone a) = true → (Q .ret (⟨[(2, .c (.int .i64 0))], [], []⟩ : LSt U))) ∧ ((Option.isNone a) = false → (Option.isSome a = true) ∧ (Option.isSome a = true) ∧ (Option.isSome a = true) ∧ (Option.isSome a = true) ∧ (InR (((Arena.most (Option.getD a (Arena.mk [] 0 0 0))) : Int) - (Arena.used (Option.getD a (Arena.mk [] 0 0 0))))) ∧ (Q .ret (⟨[(2, .c (.int .i64 (((Arena.most (Option.getD a (Arena.mk [] 0 0 0))) : Int) - (Arena.used (Option.getD a (Arena.mk [] 0 0 0))))))], [], []⟩ : LSt U)))))) := by kernel_rfl
  exact e_.mpr ⟨fun c_1 => (h.1 c_1), fun c_1 => ⟨(h.2 c_1).1, (h.2 c_1).2.1, (h.2 c_1).2.2.1, (h.2 c_1).2.2.2.1, (h.2 c_1).2.2.2.2.1, (h.2 c_1).2.2.2.2.2⟩⟩
abbrev Body71 (a : Option Arena)  : Prop := awp cfg (know (know71)) (drawOk cfg (know (know71))) Try.f71.ntmps lv71 (cd Try.f71 []) (entry (args71.can (a, ())) []) (EndsQ cfg Try.f71.ntmps Try.f71.results.toList (res71 (a, ())) [])
theorem make71 (hb : ∀ (a : Option Arena) (_ : Unit), pre71 (a, ()) → Body71 a) : Contract Try.prog cfg 71 spec71 :=
  contract_flat (l := []) cfgOk rfl (trivial) lv71 Try.func71 rfl rfl 1 (fun _ => rfl) (by decide) (fun ⟨a, _⟩ => hb a ())
noncomputable def know72 : List (FuncId × Fs U) := [(97, spec97)]
def lv72 : Lives U := fun i => match i with
  | 0 => ([(0, []), (1, []), (2, [])], [])
  | 1 => ([(6, [])], [])
  | _ => ([], [])
abbrev W72 (a : Option Arena) (s : Int) (n : Int) (Q : AExit → LSt U → Prop) := awp cfg (know know72) (drawOk cfg (know know72)) Try.f72.ntmps lv72 (cd Try.f72 []) (⟨[(0, .c (.po (U := U) .arena a)), (1, .c (.int .i64 s)), (2, .c (.int .i64 n))], [], []⟩ : LSt U) Q
theorem vc72 (a : Option Arena) (s : Int) (n : Int) (Q : AExit → LSt U → Prop) (h : (Option.isSome a = true) ∧ (Option.isSome a = true) ∧ (pre97 (a, s, ())) ∧ (InR (((Arena.size (Option.getD a (Arena.mk [] 0 0 0))) : Int) - ((segAt (segO a) s).length : Int))) ∧ (Q .ret (⟨[(6, .c (.bool (decide ((n : Int) ≤ (((Arena.size (Option.getD a (Arena.mk [] 0 0 0))) : Int) - ((segAt (segO a) s).length : Int))))))], [], []⟩ : LSt U))) :
    W72 a s n Q := by
  have e_ : (W72 a s n Q) = (type_of% h) := by kernel_rfl
  exact e_.mpr ⟨h.1, h.2.1, h.2.2.1, h.2.2.2.1, h.2.2.2.2⟩
abbrev Body72 (a : Option Arena) (s : Int) (n : Int)  : Prop := awp cfg (know (know72)) (drawOk cfg (know (know72))) Try.f72.ntmps lv72 (cd Try.f72 []) (entry (args72.can (a, s, n, ())) []) (EndsQ cfg Try.f72.ntmps Try.f72.results.toList (res72 (a, s, n, ())) [])
theorem make72 (c97 : Contract Try.prog cfg 97 spec97) (hb : ∀ (a : Option Arena) (s : Int) (n : Int) (_ : Unit), pre72 (a, s, n, ()) → Body72 a s n) : Contract Try.prog cfg 72 spec72 :=
  contract_flat (l := [(97, spec97)]) cfgOk rfl (⟨c97, trivial⟩) lv72 Try.func72 rfl rfl 3 (fun _ => rfl) (by decide) (fun ⟨a, s, n, _⟩ => hb a s n ())
noncomputable def know73 : List (FuncId × Fs U) := []
def lv73 : Lives U := fun i => match i with
  | 0 => ([(0, [.ar]), (1, []), (2, [])], [])
  | 1 => ([(0, [.ar]), (1, []), (2, []), (7, [])], [])
  | 2 => ([(0, [.ar]), (2, []), (7, [])], [])
  | 3 => ([(0, [.ar]), (7, [])], [])
  | 4 => ([(0, [.ar]), (6, [])], [])
  | _ => ([], [])
abbrev W73 (a : Arena) (s : Int) (n : Int) (Q : AExit → LSt U → Prop) := awp cfg (know know73) (drawOk cfg (know know73)) Try.f73.ntmps lv73 (cd Try.f73 []) (⟨[(0, .c (.mref (.A))), (1, .c (.int .i64 s)), (2, .c (.int .i64 n))], [], [(.A, LC.mk (U := U) .arena ([a]) 0)]⟩ : LSt U) Q
theorem vc73 (a : Arena) (s : Int) (n : Int) (Q : AExit → LSt U → Prop) (h : ((0 : Int) ≤ s ∧ s < ((Arena.segs a).length : Int)) ∧ (((0 : Int) ≤ s ∧ s < ((Arena.segs a).length : Int)) ∧ ((0 : Int) ≤ n ∧ (((List.getD (Arena.segs a) (Int.toNat s) []).length : Int) + n) * 8 ≤ 140737488355328) ∧ ((0 : Int) ≤ s ∧ s < ((Arena.segs a).length : Int)) ∧ ((Int.toNat s) = (Int.toNat s)) ∧ ((InR (((Arena.used a) : Int) + n)) ∧ (Q .ret (⟨[(0, .c (.mref (.A))), (6, .c (.int .i64 ((List.getD (Arena.segs a) (Int.toNat s) []).length : Int)))], [], [(.A, LC.mk (U := U) .arena ([Arena.mk (List.set (Arena.segs a) (Int.toNat s) ((List.getD (Arena.segs a) (Int.toNat s) []) ++ (List.replicate (Int.toNat n) 0))) (Arena.size a) (Arena.most a) (((Arena.used a) : Int) + n)]) 0)]⟩ : LSt U))))) :
    W73 a s n Q := by
  have e_ : (W73 a s n Q) = ((((0 : Int) ≤ s ∧ s < ((Arena.segs a).length : Int)) ∧ (((0 : Int) ≤ s ∧ s < ((Arena.segs a).length : Int)) ∧ ((0 : Int) ≤ n ∧ (((List.getD (Arena.segs a) (Int.toNat s) []).length : Int) + n) * 8 ≤ 140737488355328) ∧ ((0 : Int) ≤ s ∧ s < ((Arena.segs a).length : Int)) ∧ ((Int.toNat s) = (Int.toNat s)) ∧ ((InR (((Arena.used a) : Int) + n)) ∧ ((Q .ret (⟨[(0, .c (.mref (.A))), (6, .c (.int .i64 ((List.getD (Arena.segs a) (Int.toNat s) []).length : Int)))], [], [(.A, LC.mk (U := U) .arena ([Arena.mk (List.set (Arena.segs a) (Int.toNat s) ((List.getD (Arena.segs a) (Int.toNat s) []) ++ (List.replicate (Int.toNat n) 0))) (Arena.size a) (Arena.most a) (((Arena.used a) : Int) + n)]) 0)]⟩ : LSt U))))))) := by kernel_rfl
  exact e_.mpr ⟨h.1, ⟨h.2.1, h.2.2.1, h.2.2.2.1, h.2.2.2.2.1, ⟨h.2.2.2.2.2.1, h.2.2.2.2.2.2⟩⟩⟩
abbrev Body73 (a : Arena) (s : Int) (n : Int)  : Prop := awp cfg (know (know73)) (drawOk cfg (know (know73))) Try.f73.ntmps lv73 (cd Try.f73 []) (entryL (args73.can (a, s, n, ())) (args73.canX (a, s, n, ())) (args73.canL (a, s, n, ()))) (EndsQL cfg Try.f73.ntmps Try.f73.results.toList (res73 (a, s, n, ())) (resX73 (a, s, n, ())) (resL73 (a, s, n, ())))
theorem make73 (hb : ∀ (a : Arena) (s : Int) (n : Int) (_ : Unit), pre73 (a, s, n, ()) → Body73 a s n) : Contract Try.prog cfg 73 spec73 :=
  Contract.passing <| contractXL_flat (l := []) cfgOk rfl (trivial) lv73 Try.func73 rfl rfl 3 (fun _ => rfl) (by decide) (fun ⟨a, s, n, _⟩ => hb a s n ())
noncomputable def know77 : List (FuncId × Fs U) := [(102, spec102.lend), (71, spec71.lend), (72, spec72.lend), (73, spec73)]
def lv77 : Lives U := fun i => match i with
  | 0 => ([(0, [.ar]), (1, []), (2, [])], [])
  | 1 => ([(0, [.ar]), (1, []), (2, []), (32, [])], [])
  | 2 => ([(0, [.ar]), (6, []), (7, [])], [])
  | 3 => ([(0, [.ar]), (6, []), (7, [])], [])
  | _ => ([], [])
abbrev W77 (a : Arena) (s : Int) (n : Int) (Q : AExit → LSt U → Prop) := awp cfg (know know77) (drawOk cfg (know know77)) Try.f77.ntmps lv77 (cd Try.f77 []) (⟨[(0, .c (.mref (.A))), (1, .c (.int .i64 s)), (2, .c (.int .i64 n))], [], [(.A, LC.mk (U := U) .arena ([a]) 0)]⟩ : LSt U) Q
theorem vc77 (a : Arena) (s : Int) (n : Int) (Q : AExit → LSt U → Prop) (h : ((!(decide ((s : Int) < 0))) = true → pre102 ((some a), ())) ∧ ((!(bif (bif (decide ((s : Int) < 0)) then true else (decide ((((segO (some a)).length : Int) : Int) ≤ s))) then true else (decide ((n : Int) < 0)))) = true → pre71 ((some a), ())) ∧ ((!(bif (bif (bif (decide ((s : Int) < 0)) then true else (decide ((((segO (some a)).length : Int) : Int) ≤ s))) then true else (decide ((n : Int) < 0))) then true else (decide ((((arO (some a)).most - (arO (some a)).used) : Int) < n)))) = true → pre72 ((some a), s, n, ())) ∧ (((bif (bif (bif (bif (decide ((s : Int) < 0)) then true else (decide ((((segO (some a)).length : Int) : Int) ≤ s))) then true else (decide ((n : Int) < 0))) then true else (decide ((((arO (some a)).most - (arO (some a)).used) : Int) < n))) then true else (!(roomA (arO (some a)) s n))) = true → Q .ret (⟨[(0, .c (.mref (.A))), (6, .c (.int .i64 0)), (7, .c (.bool false))], [], [(.A, LC.mk (U := U) .arena ([a]) 0)]⟩ : LSt U)) ∧ ((bif (bif (bif (bif (decide ((s : Int) < 0)) then true else (decide ((((segO (some a)).length : Int) : Int) ≤ s))) then true else (decide ((n : Int) < 0))) then true else (decide ((((arO (some a)).most - (arO (some a)).used) : Int) < n))) then true else (!(roomA (arO (some a)) s n))) = false → (pre73 (a, s, n, ())) ∧ (Q .ret (⟨[(0, .c (.mref (.A))), (6, .c (.int .i64 ((segAt a.segs s).length : Int))), (7, .c (.bool true))], [], [(.A, LC.mk (U := U) .arena ([growA a s n]) 0)]⟩ : LSt U))))) :
    W77 a s n Q := by
  have e_ : (W77 a s n Q) = (let zz3 := (decide ((s : Int) < 0)); let zz2 := (bif zz3 then true else (decide ((((segO (some a)).length : Int) : Int) ≤ s))); let zz1 := (decide ((((arO (some a)).most - (arO (some a)).used) : Int) < n)); let zz0 := (bif zz2 then true else (decide ((n : Int) < 0))); ((TrEG1 ((!zz3) = true)) ∧ ((!zz3) = true → pre102 ((some a), ())) ∧ (TrEG1 ((!zz3) = true)) ∧ (TrEG1 ((!zz3) = true)) ∧ ((zz3 = false → (!zz3) = true)) ∧ (TrEG1 ((!zz2) = true)) ∧ ((zz2 = false → (!zz2) = true)) ∧ (TrEG1 ((!zz0) = true)) ∧ ((!zz0) = true → pre71 ((some a), ())) ∧ (TrEG1 ((!zz0) = true)) ∧ (TrEG1 ((!zz0) = true)) ∧ ((zz0 = false → (!zz0) = true)) ∧ (TrEG1 ((!(bif zz0 then true else zz1)) = true)) ∧ (TrEG1 ((!(bif zz0 then true else zz1)) = true)) ∧ (TrEG1 ((!(bif zz0 then true else zz1)) = true)) ∧ ((!(bif zz0 then true else zz1)) = true → pre72 ((some a), s, n, ())) ∧ (TrEG1 ((!(bif zz0 then true else zz1)) = true)) ∧ (((bif zz0 then true else zz1) = false → (!(bif zz0 then true else zz1)) = true)) ∧ (((bif (bif zz0 then true else zz1) then true else (!(roomA (arO (some a)) s n))) = true → (Q .ret (⟨[(0, .c (.mref (.A))), (6, .c (.int .i64 0)), (7, .c (.bool false))], [], [(.A, LC.mk (U := U) .arena ([a]) 0)]⟩ : LSt U))) ∧ ((bif (bif zz0 then true else zz1) then true else (!(roomA (arO (some a)) s n))) = false → (pre73 (a, s, n, ())) ∧ (Q .ret (⟨[(0, .c (.mref (.A))), (6, .c (.int .i64 ((segAt a.segs s).length : Int))), (7, .c (.bool true))], [], [(.A, LC.mk (U := U) .arena ([growA a s n]) 0)]⟩ : LSt U)))))) := by kernel_rfl
  exact e_.mpr ⟨id, h.1, id, id, (by generalize (decide ((s : Int) < 0)) = b0; revert b0; decide), id, (by generalize (decide ((((segO (some a)).length : Int) : Int) ≤ s)) = b0; generalize (decide ((s : Int) < 0)) = b1; revert b0 b1; decide), id, h.2.1, id, id, (by generalize (decide ((((segO (some a)).length : Int) : Int) ≤ s)) = b0; generalize (decide ((s : Int) < 0)) = b1; generalize (decide ((n : Int) < 0)) = b2; revert b0 b1 b2; decide), id, id, id, h.2.2.1, id, (by generalize (decide ((((arO (some a)).most - (arO (some a)).used) : Int) < n)) = b0; generalize (decide ((((segO (some a)).length : Int) : Int) ≤ s)) = b1; generalize (decide ((s : Int) < 0)) = b2; generalize (decide ((n : Int) < 0)) = b3; revert b0 b1 b2 b3; decide), ⟨fun c_2 => (h.2.2.2.1 c_2), fun c_2 => ⟨(h.2.2.2.2 c_2).1, (h.2.2.2.2 c_2).2⟩⟩⟩
abbrev Body77 (a : Arena) (s : Int) (n : Int)  : Prop := awp cfg (know (know77)) (drawOk cfg (know (know77))) Try.f77.ntmps lv77 (cd Try.f77 []) (entryL (args77.can (a, s, n, ())) (args77.canX (a, s, n, ())) (args77.canL (a, s, n, ()))) (EndsQL cfg Try.f77.ntmps Try.f77.results.toList (res77 (a, s, n, ())) (resX77 (a, s, n, ())) (resL77 (a, s, n, ())))
theorem make77 (c102 : Contract Try.prog cfg 102 spec102) (c71 : Contract Try.prog cfg 71 spec71) (c72 : Contract Try.prog cfg 72 spec72) (c73 : Contract Try.prog cfg 73 spec73) (hb : ∀ (a : Arena) (s : Int) (n : Int) (_ : Unit), pre77 (a, s, n, ()) → Body77 a s n) : Contract Try.prog cfg 77 spec77 :=
  Contract.passing <| contractXL_flat (l := [(102, spec102.lend), (71, spec71.lend), (72, spec72.lend), (73, spec73)]) cfgOk rfl (⟨c102.lend, c71.lend, c72.lend, c73, trivial⟩) lv77 Try.func77 rfl rfl 3 (fun _ => rfl) (by decide) (fun ⟨a, s, n, _⟩ => hb a s n ())
noncomputable def know40 : List (FuncId × Fs U) := [(71, spec71.lend), (72, spec72.lend), (73, spec73)]
def lv40 : Lives U := fun i => match i with
  | 0 => ([(0, [.ar]), (1, [])], [])
  | 1 => ([(0, [.ar]), (1, []), (19, [])], [])
  | 2 => ([(0, [.ar]), (4, []), (5, []), (6, [])], [])
  | 3 => ([(0, [.ar]), (1, []), (7, [])], [])
  | 4 => ([(0, [.ar]), (1, []), (7, []), (42, [])], [])
  | 5 => ([(0, [.ar]), (1, []), (7, [])], [])
  | 6 => ([(0, [.ar]), (1, []), (7, [])], [])
  | 7 => ([(0, [.ar]), (4, []), (5, []), (6, [])], [])
  | _ => ([], [])
abbrev W40 (a : Arena) (n : Int) (Q : AExit → LSt U → Prop) := awp cfg (know know40) (drawOk cfg (know know40)) Try.f40.ntmps lv40 (cd Try.f40 []) (⟨[(0, .c (.mref (.A))), (1, .c (.int .i64 n))], [], [(.A, LC.mk (U := U) .arena ([a]) 0)]⟩ : LSt U) Q
theorem vc40 (a : Arena) (n : Int) (Q : AExit → LSt U → Prop) (h : ∀ y_1, y_1 = (roomA (arO (some a)) ((((Arena.segs a).length : Int) : Int) - 1) n) → ∀ y_2, y_2 = (Arena.mk ((Arena.segs a) ++ List.replicate 1 []) (Arena.size a) (Arena.most a) (Arena.used a)) → ((!(decide ((n : Int) < 0))) = true → pre71 ((some a), ())) ∧ (((bif (decide ((n : Int) < 0)) then true else (decide ((((arO (some a)).most - (arO (some a)).used) : Int) < n))) = true → Q .ret (⟨[(0, .c (.mref (.A))), (4, .c (.int .i64 0)), (5, .c (.int .i64 0)), (6, .c (.bool false))], [], [(.A, LC.mk (U := U) .arena ([a]) 0)]⟩ : LSt U)) ∧ ((bif (decide ((n : Int) < 0)) then true else (decide ((((arO (some a)).most - (arO (some a)).used) : Int) < n))) = false → (InR ((((Arena.segs a).length : Int) : Int) - 1)) ∧ (((!(decide ((((((Arena.segs a).length : Int) : Int) - 1) : Int) < 0))) = true → pre72 ((some a), ((((Arena.segs a).length : Int) : Int) - 1), n, ())) ∧ (((bif (decide ((((((Arena.segs a).length : Int) : Int) - 1) : Int) < 0)) then true else (bif (!y_1) then (decide ((((Arena.segs a).length : Int) : Int) < 16)) else false)) = true → (((Arena.segs a).length + 1) * 24 ≤ 140737488355328) ∧ ((InR ((((((Arena.segs a).length : Int) : Int) - 1) : Int) + 1)) ∧ ((pre73 (y_2, ((((((Arena.segs a).length : Int) : Int) - 1) : Int) + 1), n, ())) ∧ (Q .ret (⟨[(0, .c (.mref (.A))), (4, .c (.int .i64 ((((((Arena.segs a).length : Int) : Int) - 1) : Int) + 1))), (5, .c (.int .i64 ((segAt y_2.segs ((((((Arena.segs a).length : Int) : Int) - 1) : Int) + 1)).length : Int))), (6, .c (.bool true))], [], [(.A, LC.mk (U := U) .arena ([growA y_2 ((((((Arena.segs a).length : Int) : Int) - 1) : Int) + 1) n]) 0)]⟩ : LSt U))))) ∧ ((bif (decide ((((((Arena.segs a).length : Int) : Int) - 1) : Int) < 0)) then true else (bif (!y_1) then (decide ((((Arena.segs a).length : Int) : Int) < 16)) else false)) = false → (pre73 (a, ((((Arena.segs a).length : Int) : Int) - 1), n, ())) ∧ (Q .ret (⟨[(0, .c (.mref (.A))), (4, .c (.int .i64 ((((Arena.segs a).length : Int) : Int) - 1))), (5, .c (.int .i64 ((segAt a.segs ((((Arena.segs a).length : Int) : Int) - 1)).length : Int))), (6, .c (.bool true))], [], [(.A, LC.mk (U := U) .arena ([growA a ((((Arena.segs a).length : Int) : Int) - 1) n]) 0)]⟩ : LSt U)))))))) :
    W40 a n Q := by
  have e_ : (W40 a n Q) = (let y_1 := (roomA (arO (some a)) (((Arena.segs a).length : Int) - 1) n); let y_2 := (Arena.mk ((Arena.segs a) ++ List.replicate 1 []) (Arena.size a) (Arena.most a) (Arena.used a)); let zz3 := (decide ((((arO (some a)).most - (arO (some a)).used) : Int) < n)); let zz2 := (bif (!y_1) then (decide (((Arena.segs a).length : Int) < 16)) else false); let zz1 := (decide ((n : Int) < 0)); let zz0 := (decide (((((Arena.segs a).length : Int) - 1) : Int) < 0)); (((!false) = true → (!false) = true) ∧ (((false) = false → (!false) = true)) ∧ (TrEG1 ((!zz1) = true)) ∧ ((!zz1) = true → pre71 ((some a), ())) ∧ (TrEG1 ((!zz1) = true)) ∧ (TrEG1 ((!zz1) = true)) ∧ ((zz1 = false → (!zz1) = true)) ∧ (((bif zz1 then true else zz3) = true → (Q .ret (⟨[(0, .c (.mref (.A))), (4, .c (.int .i64 0)), (5, .c (.int .i64 0)), (6, .c (.bool false))], [], [(.A, LC.mk (U := U) .arena ([a]) 0)]⟩ : LSt U))) ∧ ((bif zz1 then true else zz3) = false → (InR (((Arena.segs a).length : Int) - 1)) ∧ ((TrEG1 ((!zz0) = true)) ∧ (TrEG1 ((!zz0) = true)) ∧ (TrEG1 ((!zz0) = true)) ∧ ((!zz0) = true → pre72 ((some a), (((Arena.segs a).length : Int) - 1), n, ())) ∧ (TrEG1 ((!zz0) = true)) ∧ (TrEG1 ((!zz0) = true)) ∧ (TrEG1 (((!zz0) && (!y_1)) = true)) ∧ (TrEG1 (((!zz0) && (!y_1)) = true)) ∧ (TrEG1 (((!zz0) && (!y_1)) = true)) ∧ (TrEG1 (((!zz0) && (!y_1)) = true)) ∧ (TrEG1 (((!zz0) && (!y_1)) = true)) ∧ ((!zz0) = true → (True → (!zz0) = true)) ∧ ((!zz0) = true → ((!y_1) = true → ((!zz0) && (!y_1)) = true)) ∧ ((zz0 = false → (!zz0) = true)) ∧ (((bif zz0 then true else zz2) = true → (((Arena.segs a).length + 1) * 24 ≤ 140737488355328) ∧ ((InR (((((Arena.segs a).length : Int) - 1) : Int) + 1)) ∧ ((pre73 (y_2, (((((Arena.segs a).length : Int) - 1) : Int) + 1), n, ())) ∧ (Q .ret (⟨[(0, .c (.mref (.A))), (4, .c (.int .i64 (((((Arena.segs a).length : Int) - 1) : Int) + 1))), (5, .c (.int .i64 ((segAt y_2.segs (((((Arena.segs a).length : Int) - 1) : Int) + 1)).length : Int))), (6, .c (.bool true))], [], [(.A, LC.mk (U := U) .arena ([growA y_2 (((((Arena.segs a).length : Int) - 1) : Int) + 1) n]) 0)]⟩ : LSt U))))) ∧ ((bif zz0 then true else zz2) = false → (pre73 (a, (((Arena.segs a).length : Int) - 1), n, ())) ∧ (Q .ret (⟨[(0, .c (.mref (.A))), (4, .c (.int .i64 (((Arena.segs a).length : Int) - 1))), (5, .c (.int .i64 ((segAt a.segs (((Arena.segs a).length : Int) - 1)).length : Int))), (6, .c (.bool true))], [], [(.A, LC.mk (U := U) .arena ([growA a (((Arena.segs a).length : Int) - 1) n]) 0)]⟩ : LSt U))))))))) := by kernel_rfl
  exact e_.mpr (by intro y_1 y_2; have hh := h y_1 rfl y_2 rfl; exact ⟨id, (by decide), id, hh.1, id, id, (by generalize (decide ((n : Int) < 0)) = b0; revert b0; decide), ⟨fun c_3 => (hh.2.1 c_3), fun c_3 => ⟨(hh.2.2 c_3).1, ⟨id, id, id, (hh.2.2 c_3).2.1, id, id, id, id, id, id, id, (by generalize (decide ((((((Arena.segs a).length : Int) : Int) - 1) : Int) < 0)) = b0; revert b0; decide), (by generalize y_1 = b0; generalize (decide ((((((Arena.segs a).length : Int) : Int) - 1) : Int) < 0)) = b1; revert b0 b1; decide), (by generalize (decide ((((((Arena.segs a).length : Int) : Int) - 1) : Int) < 0)) = b0; revert b0; decide), ⟨fun c_4 => ⟨((hh.2.2 c_3).2.2.1 c_4).1, ⟨((hh.2.2 c_3).2.2.1 c_4).2.1, ⟨((hh.2.2 c_3).2.2.1 c_4).2.2.1, ((hh.2.2 c_3).2.2.1 c_4).2.2.2⟩⟩⟩, fun c_4 => ⟨((hh.2.2 c_3).2.2.2 c_4).1, ((hh.2.2 c_3).2.2.2 c_4).2⟩⟩⟩⟩⟩⟩)
abbrev Body40 (a : Arena) (n : Int)  : Prop := awp cfg (know (know40)) (drawOk cfg (know (know40))) Try.f40.ntmps lv40 (cd Try.f40 []) (entryL (args40.can (a, n, ())) (args40.canX (a, n, ())) (args40.canL (a, n, ()))) (EndsQL cfg Try.f40.ntmps Try.f40.results.toList (res40 (a, n, ())) (resX40 (a, n, ())) (resL40 (a, n, ())))
theorem make40 (c71 : Contract Try.prog cfg 71 spec71) (c72 : Contract Try.prog cfg 72 spec72) (c73 : Contract Try.prog cfg 73 spec73) (hb : ∀ (a : Arena) (n : Int) (_ : Unit), pre40 (a, n, ()) → Body40 a n) : Contract Try.prog cfg 40 spec40 :=
  Contract.passing <| contractXL_flat (l := [(71, spec71.lend), (72, spec72.lend), (73, spec73)]) cfgOk rfl (⟨c71.lend, c72.lend, c73, trivial⟩) lv40 Try.func40 rfl rfl 2 (fun _ => rfl) (by decide) (fun ⟨a, n, _⟩ => hb a n ())
noncomputable def know79 : List (FuncId × Fs U) := [(103, spec103.lend)]
def lv79 : Lives U := fun i => match i with
  | 0 => ([(0, [.ar]), (1, []), (2, []), (3, [])], [])
  | 1 => ([(0, [.ar]), (1, []), (2, []), (3, []), (13, [])], [])
  | 2 => ([(0, [.ar]), (8, [])], [])
  | 3 => ([(0, [.ar])], [])
  | 4 => ([(0, [.ar]), (8, [])], [])
  | _ => ([], [])
abbrev W79 (a : Arena) (s : Int) (at_ : Int) (w : Int) (Q : AExit → LSt U → Prop) := awp cfg (know know79) (drawOk cfg (know know79)) Try.f79.ntmps lv79 (cd Try.f79 []) (⟨[(0, .c (.mref (.A))), (1, .c (.int .i64 s)), (2, .c (.int .i64 at_)), (3, .c (.int .u64 w))], [], [(.A, LC.mk (U := U) .arena ([a]) 0)]⟩ : LSt U) Q
theorem vc79 (a : Arena) (s : Int) (at_ : Int) (w : Int) (Q : AExit → LSt U → Prop) (h : (pre103 ((some a), s, at_, 1, ())) ∧ (((!(hasN (segO (some a)) s at_ 1)) = true → Q .ret (⟨[(0, .c (.mref (.A))), (8, .c (.bool false))], [], [(.A, LC.mk (U := U) .arena ([a]) 0)]⟩ : LSt U)) ∧ ((!(hasN (segO (some a)) s at_ 1)) = false → ((0 : Int) ≤ s ∧ s < ((Arena.segs a).length : Int)) ∧ ((0 : Int) ≤ at_ ∧ at_ < ((List.getD (Arena.segs a) (Int.toNat s) []).length : Int)) ∧ (Q .ret (⟨[(0, .c (.mref (.A))), (8, .c (.bool true))], [], [(.A, LC.mk (U := U) .arena ([Arena.mk (List.set (Arena.segs a) (Int.toNat s) (List.set (List.getD (Arena.segs a) (Int.toNat s) []) (Int.toNat at_) w)) (Arena.size a) (Arena.most a) (Arena.used a)]) 0)]⟩ : LSt U))))) :
    W79 a s at_ w Q := by
  have e_ : (W79 a s at_ w Q) = (((pre103 ((some a), s, at_, 1, ())) ∧ (((!(hasN (segO (some a)) s at_ 1)) = true → (Q .ret (⟨[(0, .c (.mref (.A))), (8, .c (.bool false))], [], [(.A, LC.mk (U := U) .arena ([a]) 0)]⟩ : LSt U))) ∧ ((!(hasN (segO (some a)) s at_ 1)) = false → ((0 : Int) ≤ s ∧ s < ((Arena.segs a).length : Int)) ∧ ((0 : Int) ≤ at_ ∧ at_ < ((List.getD (Arena.segs a) (Int.toNat s) []).length : Int)) ∧ ((Q .ret (⟨[(0, .c (.mref (.A))), (8, .c (.bool true))], [], [(.A, LC.mk (U := U) .arena ([Arena.mk (List.set (Arena.segs a) (Int.toNat s) (List.set (List.getD (Arena.segs a) (Int.toNat s) []) (Int.toNat at_) w)) (Arena.size a) (Arena.most a) (Arena.used a)]) 0)]⟩ : LSt U))))))) := by kernel_rfl
  exact e_.mpr ⟨h.1, ⟨fun c_5 => (h.2.1 c_5), fun c_5 => ⟨(h.2.2 c_5).1, (h.2.2 c_5).2.1, (h.2.2 c_5).2.2⟩⟩⟩
abbrev Body79 (a : Arena) (s : Int) (at_ : Int) (w : Int)  : Prop := awp cfg (know (know79)) (drawOk cfg (know (know79))) Try.f79.ntmps lv79 (cd Try.f79 []) (entryL (args79.can (a, s, at_, w, ())) (args79.canX (a, s, at_, w, ())) (args79.canL (a, s, at_, w, ()))) (EndsQL cfg Try.f79.ntmps Try.f79.results.toList (res79 (a, s, at_, w, ())) (resX79 (a, s, at_, w, ())) (resL79 (a, s, at_, w, ())))
theorem make79 (c103 : Contract Try.prog cfg 103 spec103) (hb : ∀ (a : Arena) (s : Int) (at_ : Int) (w : Int) (_ : Unit), pre79 (a, s, at_, w, ()) → Body79 a s at_ w) : Contract Try.prog cfg 79 spec79 :=
  Contract.passing <| contractXL_flat (l := [(103, spec103.lend)]) cfgOk rfl (⟨c103.lend, trivial⟩) lv79 Try.func79 rfl rfl 4 (fun _ => rfl) (by decide) (fun ⟨a, s, at_, w, _⟩ => hb a s at_ w ())
end Go.AM.Ytcljdbpmjdgooaa
