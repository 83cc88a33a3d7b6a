import Derived.Test.YthokdjgpdonhgaaBD07
set_option linter.unusedSimpArgs false
set_option linter.unusedVariables false
namespace Go.AM

def getW (l : List Int) (c i : Int) : Int :=
  if wd c < 1 ∨ i < 0 ∨ 1099511627776 < i ∨ (l.length : Int) ≤ i * wd c / 64 then 0
  else (l.getD (i * wd c / 64).toNat 0 / 2 ^ (i * wd c % 64).toNat) % 2 ^ (wd c).toNat

def pz : Ptr := ⟨0, 0, 0, 0, 0, 0, 0, false⟩

def offP (w : Int) : Int := if 536870912 ≤ w / 4 % 1073741824 then w / 4 % 1073741824 - 1073741824 else w / 4 % 1073741824

def decP (w : Int) : Ptr :=
  if w = 0 then pz
  else if w % 4 = 0 then ⟨1, offP w, w / 4294967296 % 65536, w / 281474976710656, 0, 0, 0, false⟩
  else if w % 4 = 1 then ⟨2, offP w, 0, 0, w / 4294967296 % 8, w / 34359738368, 0, false⟩
  else if w % 4 = 2 then ⟨3, w / 8 % 536870912, 0, 0, 0, 0, w / 4294967296, decide (w / 4 % 2 = 1)⟩
  else ⟨4, 0, 0, 0, 0, 0, 0, false⟩

def bitsP (c : Int) : Int := if c = 0 then 0 else if c = 1 then 1 else if c = 2 then 8 else if c = 3 then 16 else if c = 4 then 32 else 64

def wordsP (p : Ptr) : Int :=
  if p.kind = 1 then p.data + p.ptrs
  else if p.kind = 2 then
    if p.code = 7 then p.count + 1
    else if p.code < 0 ∨ 6 < p.code ∨ p.count < 0 ∨ 536870912 ≤ p.count then -1
    else (p.count * bitsP p.code + 63) / 64
  else -1

def segAt (l : List (List Int)) (s : Int) : List Int := if s < 0 then [] else l.getD s.toNat []

def hasN (l : List (List Int)) (s a n : Int) : Bool := decide (0 ≤ s ∧ s < (l.length : Int) ∧ 0 ≤ a ∧ 0 ≤ n ∧ a + n ≤ ((segAt l s).length : Int))

def getS (l : List (List Int)) (s a : Int) : Int := (segAt l s).getD a.toNat 0

def locZ : Loc := ⟨pz, 0, 0⟩
def off0 (p : Ptr) : Ptr := ⟨p.kind, 0, p.data, p.ptrs, p.code, p.count, p.segment, p.double⟩

def insideL (l : List (List Int)) (x : Loc) : Loc × Int := if hasN l x.segment x.at_ (wordsP x.p) then (⟨off0 x.p, x.segment, x.at_⟩, 0) else (locZ, 7)

def shapeE (p : Ptr) : Int := if p.kind = 4 then 9 else if p.kind = 1 ∨ p.kind = 2 then 0 else 8

def nearL (l : List (List Int)) (p : Ptr) (s a : Int) : Loc × Int := if shapeE p = 0 then insideL l ⟨p, s, a + 1 + p.off⟩ else (locZ, shapeE p)

def doubleL (l : List (List Int)) (s a : Int) : Loc × Int :=
  if hasN l s a 2 then
    if (decP (getS l s a)).kind ≠ 3 ∨ (decP (getS l s a)).double = true then (locZ, 8)
    else if shapeE (decP (getS l s (a + 1))) ≠ 0 then (locZ, shapeE (decP (getS l s (a + 1))))
    else if (decP (getS l s (a + 1))).off ≠ 0 then (locZ, 8)
    else insideL l ⟨decP (getS l s (a + 1)), (decP (getS l s a)).segment, (decP (getS l s a)).off⟩
  else (locZ, 7)

def follow (l : List (List Int)) (s a : Int) : Loc × Int :=
  if hasN l s a 1 then
    if (decP (getS l s a)).kind = 0 then (locZ, 0)
    else if (decP (getS l s a)).kind ≠ 3 then nearL l (decP (getS l s a)) s a
    else if (decP (getS l s a)).double = true then doubleL l (decP (getS l s a)).segment (decP (getS l s a)).off
    else if hasN l (decP (getS l s a)).segment (decP (getS l s a)).off 1 then
      nearL l (decP (getS l (decP (getS l s a)).segment (decP (getS l s a)).off)) (decP (getS l s a)).segment (decP (getS l s a)).off
    else (locZ, 7)
  else (locZ, 7)

def xz : XRef := ⟨0, 0, 0, 0, 0, 0, 0⟩

def compX (l : List (List Int)) (s a n : Int) : XRef × Int :=
  if getS l s a ≠ 0 ∧ (decP (getS l s a)).kind ≠ 1 ∨ (decP (getS l s a)).off < 0 ∨ n < (decP (getS l s a)).off * ((decP (getS l s a)).data + (decP (getS l s a)).ptrs) then (xz, 8)
  else (⟨9, s, a + 1, (decP (getS l s a)).data, (decP (getS l s a)).ptrs, (decP (getS l s a)).off, 0⟩, 0)

def refAt (l : List (List Int)) (s a : Int) : XRef × Int :=
  if (follow l s a).2 ≠ 0 ∨ (follow l s a).1.p.kind = 0 then (xz, (follow l s a).2)
  else if (follow l s a).1.p.kind = 1 then (⟨1, (follow l s a).1.segment, (follow l s a).1.at_, (follow l s a).1.p.data, (follow l s a).1.p.ptrs, 0, 0⟩, 0)
  else if (follow l s a).1.p.code < 7 then (⟨2 + (follow l s a).1.p.code, (follow l s a).1.segment, (follow l s a).1.at_, 0, 0, (follow l s a).1.p.count, 0⟩, 0)
  else compX l (follow l s a).1.segment (follow l s a).1.at_ (follow l s a).1.p.count

def kidsX (x : XRef) : Int := if x.kind = 1 then x.ptrs else x.count

def wordsX (l : List (List Int)) (x : XRef) : List Int := if x.kind = 10 then [x.n] else if x.kind = 1 then ((segAt l x.s).drop x.at_.toNat).take x.data.toNat else []

def kidX (l : List (List Int)) (x : XRef) (i : Int) : XRef × Int :=
  if i < 0 ∨ kidsX x ≤ i then (xz, 0)
  else if x.kind = 1 then refAt l x.s (x.at_ + x.data + i)
  else if x.kind = 8 then refAt l x.s (x.at_ + i)
  else if x.kind = 9 then (⟨1, x.s, x.at_ + i * (x.data + x.ptrs), x.data, x.ptrs, 0, 0⟩, 0)
  else (⟨10, 0, 0, 0, 0, 0, getW ((segAt l x.s).drop x.at_.toNat) (x.kind - 2) i⟩, 0)

theorem getD_word {w : List Int} (h : ∀ x ∈ w, 0 ≤ x ∧ x < 18446744073709551616) (i : Nat) : 0 ≤ w.getD i 0 ∧ w.getD i 0 < 18446744073709551616 := by
  rw [List.getD_eq_getElem?_getD]
  by_cases hi : i < w.length
  · rw [List.getElem?_eq_getElem hi]; exact h _ (List.getElem_mem hi)
  · rw [List.getElem?_eq_none (by omega)]; decide

theorem hasN_iff {l : List (List Int)} {s a n : Int} : hasN l s a n = true ↔ 0 ≤ s ∧ s < (l.length : Int) ∧ 0 ≤ a ∧ 0 ≤ n ∧ a + n ≤ ((segAt l s).length : Int) := by simp [hasN]

theorem wd_cases (c : Int) : wd c = -1 ∨ wd c = 0 ∨ wd c = 1 ∨ wd c = 8 ∨ wd c = 16 ∨ wd c = 32 ∨ wd c = 64 := by
  unfold wd
  repeat' split
  all_goals simp

end Go.AM

namespace Go.AM

def okW (l : List Int) : Prop := ∀ x ∈ l, 0 ≤ x ∧ x < 18446744073709551616
theorem wrap_u64 {n : Int} (h0 : 0 ≤ n) (h1 : n < 18446744073709551616) : IntKind.wrap .u64 n = n := by
  simp [IntKind.wrap, IntKind.signed, IntKind.bits]; omega
theorem wrap_i64 {n : Int} (h0 : -9223372036854775808 ≤ n) (h1 : n < 9223372036854775808) : IntKind.wrap .i64 n = n := by
  simp [IntKind.wrap, IntKind.signed, IntKind.bits]
  split <;> omega

theorem and_mask {a : Int} (h0 : 0 ≤ a) (h1 : a < 18446744073709551616) (k : Nat) (hk : k ≤ 64) {m : Int} (hm : m = 2 ^ k - 1) :
    IntKind.wrap .u64 (BitVec.ofInt (IntKind.bits .u64) a &&& BitVec.ofInt (IntKind.bits .u64) m).toNat = a % 2 ^ k := by
  obtain ⟨n, rfl⟩ := Int.eq_ofNat_of_zero_le h0
  subst hm
  have e1 : BitVec.ofInt (IntKind.bits .u64) ((n : Nat) : Int) = BitVec.ofNat 64 n := by simp [IntKind.bits]
  have hpos : (0 : Nat) < 2 ^ k := Nat.two_pow_pos k
  have e2 : ((2 : Int) ^ k - 1) = ((2 ^ k - 1 : Nat) : Int) := by rw [Int.ofNat_sub hpos]; simp
  rw [e1, e2]
  have e3 : BitVec.ofInt (IntKind.bits .u64) ((2 ^ k - 1 : Nat) : Int) = BitVec.ofNat 64 (2 ^ k - 1) := by simp [IntKind.bits]
  rw [e3]
  have hle : 2 ^ k ≤ 2 ^ 64 := Nat.pow_le_pow_right (by decide) hk
  have hn : n < 2 ^ 64 := by omega
  have e4 : (BitVec.ofNat 64 n &&& BitVec.ofNat 64 (2 ^ k - 1)).toNat = n % 2 ^ k := by
    rw [BitVec.toNat_and, BitVec.toNat_ofNat, BitVec.toNat_ofNat, Nat.mod_eq_of_lt hn, Nat.mod_eq_of_lt (by omega), Nat.and_two_pow_sub_one_eq_mod]
  show IntKind.wrap .u64 ((BitVec.ofNat 64 n &&& BitVec.ofNat 64 (2 ^ k - 1)).toNat : Int) = _
  rw [e4, wrap_u64 (by omega) (by have := Nat.mod_lt n hpos; omega)]
  simp

end Go.AM
