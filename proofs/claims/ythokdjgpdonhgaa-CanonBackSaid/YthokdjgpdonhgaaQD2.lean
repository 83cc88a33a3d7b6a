import Derived.Test.YthokdjgpdonhgaaBD07
set_option linter.unusedSimpArgs false
set_option linter.unusedVariables false
namespace Go.AM
def getW (l : List Int) (c i : Int) : Int :=
  if wd c < 1 ∨ i < 0 ∨ 1099511627776 < i ∨ (l.length : Int) ≤ i * wd c / 64 then 0
  else (l.getD (i * wd c / 64).toNat 0 / 2 ^ (i * wd c % 64).toNat) % 2 ^ (wd c).toNat
def pz : Ptr := ⟨0, 0, 0, 0, 0, 0, 0, false⟩
def offP (w : Int) : Int := if 536870912 ≤ w / 4 % 1073741824 then w / 4 % 1073741824 - 1073741824 else w / 4 % 1073741824
def decP (w : Int) : Ptr :=
  if w = 0 then pz
  else if w % 4 = 0 then ⟨1, offP w, w / 4294967296 % 65536, w / 281474976710656, 0, 0, 0, false⟩
  else if w % 4 = 1 then ⟨2, offP w, 0, 0, w / 4294967296 % 8, w / 34359738368, 0, false⟩
  else if w % 4 = 2 then ⟨3, w / 8 % 536870912, 0, 0, 0, 0, w / 4294967296, decide (w / 4 % 2 = 1)⟩
  else ⟨4, 0, 0, 0, 0, 0, 0, false⟩
structure OkP (p : Ptr) : Prop where
  kind : 0 ≤ p.kind ∧ p.kind ≤ 4
  off : -536870912 ≤ p.off ∧ p.off < 536870912
  data : 0 ≤ p.data ∧ p.data < 65536
  ptrs : 0 ≤ p.ptrs ∧ p.ptrs < 65536
  code : 0 ≤ p.code ∧ p.code < 8
  count : 0 ≤ p.count ∧ p.count < 536870912
  segment : 0 ≤ p.segment ∧ p.segment < 4294967296
  far : p.kind = 3 → 0 ≤ p.off
theorem okP_dec {w : Int} (h0 : 0 ≤ w) (h1 : w < 18446744073709551616) : OkP (decP w) := by
  have ho : -536870912 ≤ offP w ∧ offP w < 536870912 := by unfold offP; split <;> omega
  unfold decP pz
  split
  · constructor <;> simp
  · split
    · constructor <;> simp <;> omega
    · split
      · constructor <;> simp <;> omega
      · split
        · constructor <;> simp <;> omega
        · constructor <;> simp
def bitsP (c : Int) : Int := if c = 0 then 0 else if c = 1 then 1 else if c = 2 then 8 else if c = 3 then 16 else if c = 4 then 32 else 64
def wordsP (p : Ptr) : Int :=
  if p.kind = 1 then p.data + p.ptrs
  else if p.kind = 2 then
    if p.code = 7 then p.count + 1
    else if p.code < 0 ∨ 6 < p.code ∨ p.count < 0 ∨ 536870912 ≤ p.count then -1
    else (p.count * bitsP p.code + 63) / 64
  else -1
def segAt (l : List (List Int)) (s : Int) : List Int := if s < 0 then [] else l.getD s.toNat []
def hasN (l : List (List Int)) (s a n : Int) : Bool := decide (0 ≤ s ∧ s < (l.length : Int) ∧ 0 ≤ a ∧ 0 ≤ n ∧ a + n ≤ ((segAt l s).length : Int))
def getS (l : List (List Int)) (s a : Int) : Int := (segAt l s).getD a.toNat 0
def locZ : Loc := ⟨pz, 0, 0⟩
def off0 (p : Ptr) : Ptr := ⟨p.kind, 0, p.data, p.ptrs, p.code, p.count, p.segment, p.double⟩
def insideL (l : List (List Int)) (x : Loc) : Loc × Int := if hasN l x.segment x.at_ (wordsP x.p) then (⟨off0 x.p, x.segment, x.at_⟩, 0) else (locZ, 7)
def shapeE (p : Ptr) : Int := if p.kind = 4 then 9 else if p.kind = 1 ∨ p.kind = 2 then 0 else 8
def nearL (l : List (List Int)) (p : Ptr) (s a : Int) : Loc × Int := if shapeE p = 0 then insideL l ⟨p, s, a + 1 + p.off⟩ else (locZ, shapeE p)
def doubleL (l : List (List Int)) (s a : Int) : Loc × Int :=
  if hasN l s a 2 then
    if (decP (getS l s a)).kind ≠ 3 ∨ (decP (getS l s a)).double = true then (locZ, 8)
    else if shapeE (decP (getS l s (a + 1))) ≠ 0 then (locZ, shapeE (decP (getS l s (a + 1))))
    else if (decP (getS l s (a + 1))).off ≠ 0 then (locZ, 8)
    else insideL l ⟨decP (getS l s (a + 1)), (decP (getS l s a)).segment, (decP (getS l s a)).off⟩
  else (locZ, 7)
def follow (l : List (List Int)) (s a : Int) : Loc × Int :=
  if hasN l s a 1 then
    if (decP (getS l s a)).kind = 0 then (locZ, 0)
    else if (decP (getS l s a)).kind ≠ 3 then nearL l (decP (getS l s a)) s a
    else if (decP (getS l s a)).double = true then doubleL l (decP (getS l s a)).segment (decP (getS l s a)).off
    else if hasN l (decP (getS l s a)).segment (decP (getS l s a)).off 1 then
      nearL l (decP (getS l (decP (getS l s a)).segment (decP (getS l s a)).off)) (decP (getS l s a)).segment (decP (getS l s a)).off
    else (locZ, 7)
  else (locZ, 7)
def xz : XRef := ⟨0, 0, 0, 0, 0, 0, 0⟩
def compX (l : List (List Int)) (s a n : Int) : XRef × Int :=
  if getS l s a ≠ 0 ∧ (decP (getS l s a)).kind ≠ 1 ∨ (decP (getS l s a)).off < 0 ∨ n < (decP (getS l s a)).off * ((decP (getS l s a)).data + (decP (getS l s a)).ptrs) then (xz, 8)
  else (⟨9, s, a + 1, (decP (getS l s a)).data, (decP (getS l s a)).ptrs, (decP (getS l s a)).off, 0⟩, 0)
def refAt (l : List (List Int)) (s a : Int) : XRef × Int :=
  if (follow l s a).2 ≠ 0 ∨ (follow l s a).1.p.kind = 0 then (xz, (follow l s a).2)
  else if (follow l s a).1.p.kind = 1 then (⟨1, (follow l s a).1.segment, (follow l s a).1.at_, (follow l s a).1.p.data, (follow l s a).1.p.ptrs, 0, 0⟩, 0)
  else if (follow l s a).1.p.code < 7 then (⟨2 + (follow l s a).1.p.code, (follow l s a).1.segment, (follow l s a).1.at_, 0, 0, (follow l s a).1.p.count, 0⟩, 0)
  else compX l (follow l s a).1.segment (follow l s a).1.at_ (follow l s a).1.p.count
def kidsX (x : XRef) : Int := if x.kind = 1 then x.ptrs else x.count
def wordsX (l : List (List Int)) (x : XRef) : List Int := if x.kind = 10 then [x.n] else if x.kind = 1 then ((segAt l x.s).drop x.at_.toNat).take x.data.toNat else []
def kidX (l : List (List Int)) (x : XRef) (i : Int) : XRef × Int :=
  if i < 0 ∨ kidsX x ≤ i then (xz, 0)
  else if x.kind = 1 then refAt l x.s (x.at_ + x.data + i)
  else if x.kind = 8 then refAt l x.s (x.at_ + i)
  else if x.kind = 9 then (⟨1, x.s, x.at_ + i * (x.data + x.ptrs), x.data, x.ptrs, 0, 0⟩, 0)
  else (⟨10, 0, 0, 0, 0, 0, getW ((segAt l x.s).drop x.at_.toNat) (x.kind - 2) i⟩, 0)
def okSeg (l : List (List Int)) : Prop := l.length ≤ 5864062014805 ∧ ∀ w ∈ l, w.length ≤ 17592186044416 ∧ ∀ x ∈ w, 0 ≤ x ∧ x < 18446744073709551616
structure OkX (l : List (List Int)) (x : XRef) : Prop where
  kind : 0 ≤ x.kind ∧ x.kind ≤ 10
  data : 0 ≤ x.data ∧ x.data < 65536
  ptrs : 0 ≤ x.ptrs ∧ x.ptrs < 65536
  count : 0 ≤ x.count ∧ x.count < 536870912
  n : 0 ≤ x.n ∧ x.n < 18446744073709551616
  at_ : 0 ≤ x.at_ ∧ x.at_ ≤ 17592186044416
  one : x.kind = 1 → hasN l x.s x.at_ (x.data + x.ptrs) = true
  zero : x.kind = 0 ∨ x.kind = 10 → x.count = 0
  nine : x.kind = 9 → hasN l x.s x.at_ (x.count * (x.data + x.ptrs)) = true
  list : 2 ≤ x.kind → x.kind ≤ 8 → hasN l x.s x.at_ ((x.count * bitsP (x.kind - 2) + 63) / 64) = true
  frame : x.kind ≠ 1 → x.kind ≠ 9 → x.data = 0 ∧ x.ptrs = 0
  num : x.kind ≠ 10 → x.n = 0
  cnt : x.kind = 1 → x.count = 0
  lie : x.kind = 0 ∨ x.kind = 10 → x.s = 0 ∧ x.at_ = 0
  null : x.kind = 0 → x = xz
theorem okSeg_at {l : List (List Int)} (h : okSeg l) (s : Int) : (segAt l s).length ≤ 17592186044416 ∧ ∀ x ∈ segAt l s, 0 ≤ x ∧ x < 18446744073709551616 := by
  unfold segAt
  split
  · exact ⟨by simp, fun x hx => by cases hx⟩
  · by_cases hs : s.toNat < l.length
    · rw [List.getD_eq_getElem?_getD, List.getElem?_eq_getElem hs]
      exact h.2 _ (List.getElem_mem hs)
    · rw [List.getD_eq_getElem?_getD, List.getElem?_eq_none (by omega)]
      exact ⟨by simp, fun x hx => by cases hx⟩
theorem getD_word {w : List Int} (h : ∀ x ∈ w, 0 ≤ x ∧ x < 18446744073709551616) (i : Nat) : 0 ≤ w.getD i 0 ∧ w.getD i 0 < 18446744073709551616 := by
  rw [List.getD_eq_getElem?_getD]
  by_cases hi : i < w.length
  · rw [List.getElem?_eq_getElem hi]; exact h _ (List.getElem_mem hi)
  · rw [List.getElem?_eq_none (by omega)]; decide
theorem getS_word {l : List (List Int)} (h : okSeg l) (s a : Int) : 0 ≤ getS l s a ∧ getS l s a < 18446744073709551616 := getD_word (okSeg_at h s).2 _
theorem hasN_iff {l : List (List Int)} {s a n : Int} : hasN l s a n = true ↔ 0 ≤ s ∧ s < (l.length : Int) ∧ 0 ≤ a ∧ 0 ≤ n ∧ a + n ≤ ((segAt l s).length : Int) := by simp [hasN]
theorem okP_off0 {p : Ptr} (h : OkP p) : OkP (off0 p) := ⟨h.kind, by simp [off0], h.data, h.ptrs, h.code, h.count, h.segment, fun _ => by simp [off0]⟩
structure OkL (l : List (List Int)) (x : Loc) : Prop where
  p : OkP x.p
  kind : x.p.kind = 0 ∨ x.p.kind = 1 ∨ x.p.kind = 2
  off : x.p.off = 0
  lie : x.p.kind ≠ 0 → hasN l x.segment x.at_ (wordsP x.p) = true
theorem okP_z : OkP pz := by constructor <;> simp [pz]
theorem okL_z {l : List (List Int)} : OkL l locZ := ⟨okP_z, .inl rfl, rfl, fun h => absurd rfl h⟩
theorem okL_inside {l : List (List Int)} {x : Loc} (h : OkP x.p) (hk : x.p.kind = 1 ∨ x.p.kind = 2) : OkL l (insideL l x).1 := by
  unfold insideL
  split
  · rename_i hh
    exact ⟨okP_off0 h, .inr hk, rfl, fun _ => hh⟩
  · exact okL_z
theorem shapeE_zero {p : Ptr} (h : shapeE p = 0) : p.kind = 1 ∨ p.kind = 2 := by
  unfold shapeE at h
  split at h
  · cases h
  · split at h
    · assumption
    · cases h
theorem okL_near {l : List (List Int)} {p : Ptr} {s a : Int} (h : OkP p) : OkL l (nearL l p s a).1 := by
  unfold nearL
  split
  · rename_i hs
    exact okL_inside h (shapeE_zero hs)
  · exact okL_z
theorem okL_follow {l : List (List Int)} (h : okSeg l) (s a : Int) : OkL l (follow l s a).1 := by
  have hd : ∀ s a, OkP (decP (getS l s a)) := fun s a => okP_dec (getS_word h s a).1 (getS_word h s a).2
  unfold follow
  split
  · split
    · exact okL_z
    · split
      · exact okL_near (hd s a)
      · split
        · unfold doubleL
          split
          · split
            · exact okL_z
            · split
              · exact okL_z
              · split
                · exact okL_z
                · rename_i h1 h2
                  exact okL_inside (hd _ _) (shapeE_zero (Decidable.not_not.1 h1))
          · exact okL_z
        · split
          · exact okL_near (hd _ _)
          · exact okL_z
  · exact okL_z
theorem okX_z {l : List (List Int)} : OkX l xz := by constructor <;> simp [xz]
theorem okX_struct {l : List (List Int)} (h : okSeg l) {s a d p : Int} (hd : 0 ≤ d ∧ d < 65536) (hp : 0 ≤ p ∧ p < 65536) (hh : hasN l s a (d + p) = true) : OkX l ⟨1, s, a, d, p, 0, 0⟩ := by
  have hl := hasN_iff.1 hh
  have hlen := (okSeg_at h s).1
  have ha : a ≤ 17592186044416 := by omega
  constructor <;> simp <;> first | exact hd | exact hp | exact hh | exact ⟨hl.2.2.1, ha⟩
theorem okX_list {l : List (List Int)} (h : okSeg l) {k s a c : Int} (hk : 2 ≤ k ∧ k ≤ 8) (hc : 0 ≤ c ∧ c < 536870912) (hh : hasN l s a ((c * bitsP (k - 2) + 63) / 64) = true) : OkX l ⟨k, s, a, 0, 0, c, 0⟩ := by
  have hl := hasN_iff.1 hh
  have hlen := (okSeg_at h s).1
  have ha : a ≤ 17592186044416 := by omega
  constructor <;> simp <;> first | exact hc | exact ⟨hl.2.2.1, ha⟩ | (intro _ _; exact hh) | omega
theorem okX_comp {l : List (List Int)} (h : okSeg l) {s a d p c : Int} (hd : 0 ≤ d ∧ d < 65536) (hp : 0 ≤ p ∧ p < 65536) (hc : 0 ≤ c ∧ c < 536870912) (hh : hasN l s a (c * (d + p)) = true) : OkX l ⟨9, s, a, d, p, c, 0⟩ := by
  have hl := hasN_iff.1 hh
  have hlen := (okSeg_at h s).1
  have ha : a ≤ 17592186044416 := by omega
  constructor <;> simp <;> first | exact hd | exact hp | exact hc | exact hh | exact ⟨hl.2.2.1, ha⟩
theorem okX_atom {l : List (List Int)} {n : Int} (h : 0 ≤ n ∧ n < 18446744073709551616) : OkX l ⟨10, 0, 0, 0, 0, 0, n⟩ := by
  constructor <;> simp <;> exact h
theorem okX_comps {l : List (List Int)} (h : okSeg l) {s a n : Int} (hn : 0 ≤ n) (hh : hasN l s a (n + 1) = true) : OkX l (compX l s a n).1 := by
  have hp := okP_dec (getS_word h s a).1 (getS_word h s a).2
  have hl := hasN_iff.1 hh
  unfold compX
  split
  · exact okX_z
  · rename_i hn'
    have h1 : 0 ≤ (decP (getS l s a)).off := by omega
    have h2 : (decP (getS l s a)).off * ((decP (getS l s a)).data + (decP (getS l s a)).ptrs) ≤ n := by omega
    have h3 := hp.data.1
    have h4 := hp.ptrs.1
    have h5 : 0 ≤ (decP (getS l s a)).off * ((decP (getS l s a)).data + (decP (getS l s a)).ptrs) := Int.mul_nonneg h1 (by omega)
    exact okX_comp h hp.data hp.ptrs ⟨h1, hp.off.2⟩ (hasN_iff.2 ⟨hl.1, hl.2.1, by omega, h5, by omega⟩)
theorem okX_at {l : List (List Int)} (h : okSeg l) (s a : Int) : OkX l (refAt l s a).1 := by
  have hf := okL_follow h s a
  have hp := hf.p
  unfold refAt
  split
  · exact okX_z
  · rename_i hn
    have hn' : (follow l s a).1.p.kind ≠ 0 := fun e => hn (.inr e)
    have hl := hf.lie hn'
    have hk := hf.kind
    split
    · rename_i h1
      have hw : wordsP (follow l s a).1.p = (follow l s a).1.p.data + (follow l s a).1.p.ptrs := by unfold wordsP; rw [if_pos h1]
      rw [hw] at hl
      exact okX_struct h hp.data hp.ptrs hl
    · rename_i h1
      have h2 : (follow l s a).1.p.kind = 2 := by omega
      have hc := hp.code
      have hcn := hp.count
      split
      · rename_i h7
        have hw : wordsP (follow l s a).1.p = ((follow l s a).1.p.count * bitsP (follow l s a).1.p.code + 63) / 64 := by
          unfold wordsP; rw [if_neg h1, if_pos h2, if_neg (by omega), if_neg (by omega)]
        rw [hw] at hl
        exact okX_list h (by omega) hcn (by rw [show 2 + (follow l s a).1.p.code - 2 = (follow l s a).1.p.code by omega]; exact hl)
      · have hw : wordsP (follow l s a).1.p = (follow l s a).1.p.count + 1 := by
          unfold wordsP; rw [if_neg h1, if_pos h2, if_pos (by omega)]
        rw [hw] at hl
        exact okX_comps h hcn.1 hl
theorem wd_cases (c : Int) : wd c = -1 ∨ wd c = 0 ∨ wd c = 1 ∨ wd c = 8 ∨ wd c = 16 ∨ wd c = 32 ∨ wd c = 64 := by
  unfold wd
  repeat' split
  all_goals simp
theorem getW_word {l : List Int} (h : ∀ x ∈ l, 0 ≤ x ∧ x < 18446744073709551616) (c i : Int) : 0 ≤ getW l c i ∧ getW l c i < 18446744073709551616 := by
  unfold getW
  split
  · decide
  · rename_i hn
    rcases wd_cases c with e | e | e | e | e | e | e <;> rw [e] at hn ⊢
    · omega
    · omega
    all_goals exact ⟨Int.emod_nonneg _ (by decide), Int.lt_of_lt_of_le (Int.emod_lt_of_pos _ (by decide)) (by decide)⟩
theorem okX_kid {l : List (List Int)} (h : okSeg l) {x : XRef} (hx : OkX l x) (i : Int) : OkX l (kidX l x i).1 := by
  unfold kidX
  split
  · exact okX_z
  · rename_i hi
    split
    · exact okX_at h _ _
    · rename_i h1
      split
      · exact okX_at h _ _
      · split
        · rename_i h9
          have hh := hasN_iff.1 (hx.nine h9)
          have hd := hx.data
          have hp := hx.ptrs
          have hi2 : 0 ≤ i ∧ i < x.count := by unfold kidsX at hi; rw [if_neg h1] at hi; omega
          have e1 : 0 ≤ i * (x.data + x.ptrs) := Int.mul_nonneg hi2.1 (by omega)
          have e2 : (i + 1) * (x.data + x.ptrs) ≤ x.count * (x.data + x.ptrs) := Int.mul_le_mul_of_nonneg_right (by omega) (by omega)
          rw [Int.add_mul, Int.one_mul] at e2
          exact okX_struct h hd hp (hasN_iff.2 ⟨hh.1, hh.2.1, by omega, by omega, by omega⟩)
        · exact okX_atom (getW_word (fun y hy => (okSeg_at h x.s).2 y (List.mem_of_mem_drop hy)) _ _)
end Go.AM

namespace Go.AM
def okW (l : List Int) : Prop := ∀ x ∈ l, 0 ≤ x ∧ x < 18446744073709551616
def partS (l : List (List Int)) (s a n : Int) : List Int := ((segAt l s).drop a.toNat).take n.toNat
def segO (a : Option Arena) : List (List Int) := match a with
  | none => []
  | some x => x.segs
def okA (a : Option Arena) : Prop := okSeg (segO a)
theorem wrap_u64 {n : Int} (h0 : 0 ≤ n) (h1 : n < 18446744073709551616) : IntKind.wrap .u64 n = n := by
  simp [IntKind.wrap, IntKind.signed, IntKind.bits]; omega
theorem wrap_i64 {n : Int} (h0 : -9223372036854775808 ≤ n) (h1 : n < 9223372036854775808) : IntKind.wrap .i64 n = n := by
  simp [IntKind.wrap, IntKind.signed, IntKind.bits]
  split <;> omega
theorem and_mask {a : Int} (h0 : 0 ≤ a) (h1 : a < 18446744073709551616) (k : Nat) (hk : k ≤ 64) {m : Int} (hm : m = 2 ^ k - 1) :
    IntKind.wrap .u64 (BitVec.ofInt (IntKind.bits .u64) a &&& BitVec.ofInt (IntKind.bits .u64) m).toNat = a % 2 ^ k := by
  obtain ⟨n, rfl⟩ := Int.eq_ofNat_of_zero_le h0
  subst hm
  have e1 : BitVec.ofInt (IntKind.bits .u64) ((n : Nat) : Int) = BitVec.ofNat 64 n := by simp [IntKind.bits]
  have hpos : (0 : Nat) < 2 ^ k := Nat.two_pow_pos k
  have e2 : ((2 : Int) ^ k - 1) = ((2 ^ k - 1 : Nat) : Int) := by rw [Int.ofNat_sub hpos]; simp
  rw [e1, e2]
  have e3 : BitVec.ofInt (IntKind.bits .u64) ((2 ^ k - 1 : Nat) : Int) = BitVec.ofNat 64 (2 ^ k - 1) := by simp [IntKind.bits]
  rw [e3]
  have hle : 2 ^ k ≤ 2 ^ 64 := Nat.pow_le_pow_right (by decide) hk
  have hn : n < 2 ^ 64 := by omega
  have e4 : (BitVec.ofNat 64 n &&& BitVec.ofNat 64 (2 ^ k - 1)).toNat = n % 2 ^ k := by
    rw [BitVec.toNat_and, BitVec.toNat_ofNat, BitVec.toNat_ofNat, Nat.mod_eq_of_lt hn, Nat.mod_eq_of_lt (by omega), Nat.and_two_pow_sub_one_eq_mod]
  show IntKind.wrap .u64 ((BitVec.ofNat 64 n &&& BitVec.ofNat 64 (2 ^ k - 1)).toNat : Int) = _
  rw [e4, wrap_u64 (by omega) (by have := Nat.mod_lt n hpos; omega)]
  simp
end Go.AM
