import Derived.Test.YthokdjgpdonhgaaBD07
set_option linter.unusedSimpArgs false
set_option linter.unusedVariables false
namespace Go.AM

def pz : Ptr := ⟨0, 0, 0, 0, 0, 0, 0, false⟩

def offP (w : Int) : Int := if 536870912 ≤ w / 4 % 1073741824 then w / 4 % 1073741824 - 1073741824 else w / 4 % 1073741824

def decP (w : Int) : Ptr :=
  if w = 0 then pz
  else if w % 4 = 0 then ⟨1, offP w, w / 4294967296 % 65536, w / 281474976710656, 0, 0, 0, false⟩
  else if w % 4 = 1 then ⟨2, offP w, 0, 0, w / 4294967296 % 8, w / 34359738368, 0, false⟩
  else if w % 4 = 2 then ⟨3, w / 8 % 536870912, 0, 0, 0, 0, w / 4294967296, decide (w / 4 % 2 = 1)⟩
  else ⟨4, 0, 0, 0, 0, 0, 0, false⟩

def off0 (p : Ptr) : Ptr := ⟨p.kind, 0, p.data, p.ptrs, p.code, p.count, p.segment, p.double⟩

theorem getD_word {w : List Int} (h : ∀ x ∈ w, 0 ≤ x ∧ x < 18446744073709551616) (i : Nat) : 0 ≤ w.getD i 0 ∧ w.getD i 0 < 18446744073709551616 := by
  rw [List.getD_eq_getElem?_getD]
  by_cases hi : i < w.length
  · rw [List.getElem?_eq_getElem hi]; exact h _ (List.getElem_mem hi)
  · rw [List.getElem?_eq_none (by omega)]; decide

theorem wd_cases (c : Int) : wd c = -1 ∨ wd c = 0 ∨ wd c = 1 ∨ wd c = 8 ∨ wd c = 16 ∨ wd c = 32 ∨ wd c = 64 := by
  unfold wd
  repeat' split
  all_goals simp

end Go.AM

namespace Go.AM

def okW (l : List Int) : Prop := ∀ x ∈ l, 0 ≤ x ∧ x < 18446744073709551616
theorem wrap_u64 {n : Int} (h0 : 0 ≤ n) (h1 : n < 18446744073709551616) : IntKind.wrap .u64 n = n := by
  simp [IntKind.wrap, IntKind.signed, IntKind.bits]; omega
theorem wrap_i64 {n : Int} (h0 : -9223372036854775808 ≤ n) (h1 : n < 9223372036854775808) : IntKind.wrap .i64 n = n := by
  simp [IntKind.wrap, IntKind.signed, IntKind.bits]
  split <;> omega

theorem and_mask {a : Int} (h0 : 0 ≤ a) (h1 : a < 18446744073709551616) (k : Nat) (hk : k ≤ 64) {m : Int} (hm : m = 2 ^ k - 1) :
    IntKind.wrap .u64 (BitVec.ofInt (IntKind.bits .u64) a &&& BitVec.ofInt (IntKind.bits .u64) m).toNat = a % 2 ^ k := by
  obtain ⟨n, rfl⟩ := Int.eq_ofNat_of_zero_le h0
  subst hm
  have e1 : BitVec.ofInt (IntKind.bits .u64) ((n : Nat) : Int) = BitVec.ofNat 64 n := by simp [IntKind.bits]
  have hpos : (0 : Nat) < 2 ^ k := Nat.two_pow_pos k
  have e2 : ((2 : Int) ^ k - 1) = ((2 ^ k - 1 : Nat) : Int) := by rw [Int.ofNat_sub hpos]; simp
  rw [e1, e2]
  have e3 : BitVec.ofInt (IntKind.bits .u64) ((2 ^ k - 1 : Nat) : Int) = BitVec.ofNat 64 (2 ^ k - 1) := by simp [IntKind.bits]
  rw [e3]
  have hle : 2 ^ k ≤ 2 ^ 64 := Nat.pow_le_pow_right (by decide) hk
  have hn : n < 2 ^ 64 := by omega
  have e4 : (BitVec.ofNat 64 n &&& BitVec.ofNat 64 (2 ^ k - 1)).toNat = n % 2 ^ k := by
    rw [BitVec.toNat_and, BitVec.toNat_ofNat, BitVec.toNat_ofNat, Nat.mod_eq_of_lt hn, Nat.mod_eq_of_lt (by omega), Nat.and_two_pow_sub_one_eq_mod]
  show IntKind.wrap .u64 ((BitVec.ofNat 64 n &&& BitVec.ofNat 64 (2 ^ k - 1)).toNat : Int) = _
  rw [e4, wrap_u64 (by omega) (by have := Nat.mod_lt n hpos; omega)]
  simp

end Go.AM
