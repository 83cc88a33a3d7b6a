import Derived.Test.YthokdjgpdonhgaaQGm
import Derived.Test.YthokdjgpdonhgaaQL15
import Derived.Test.YthokdjgpdonhgaaVRB07
set_option linter.unusedSimpArgs false
set_option linter.unusedVariables false
namespace Go.AM.Ythokdjgpdonhgaa
open Go.AM Go.Proofs

theorem fr_snoc : ∀ (a : List Tree) (t : Tree), frW (a ++ [t]) = max (frW a) t.words.length ∧ frK (a ++ [t]) = max (frK a) t.kids.length
  | [], t => by simp [frW, frK]
  | x :: r, t => by
    obtain ⟨h1, h2⟩ := fr_snoc r t
    rw [List.cons_append, frW, frK, h1, h2, frW, frK]
    omega
theorem takeI {ks : List Tree} {i : Int} (h0 : 0 ≤ i) (h : i < ks.length) : ks.take (i + 1).toNat = ks.take i.toNat ++ [ks.getD i.toNat Tree.nil] := by
  rw [show (i + 1).toNat = i.toNat + 1 by omega]
  exact take_snoc (by omega)
theorem fr_take {ks : List Tree} {i : Int} (h0 : 0 ≤ i) (h : i < ks.length) : frW (ks.take (i + 1).toNat) = max (frW (ks.take i.toNat)) (ks.getD i.toNat Tree.nil).words.length ∧ frK (ks.take (i + 1).toNat) = max (frK (ks.take i.toNat)) (ks.getD i.toNat Tree.nil).kids.length := by
  rw [takeI h0 h]
  exact fr_snoc _ _
theorem kids_le (t : Tree) : t.words.length + t.kids.length + 1 ≤ mass t := by
  obtain ⟨k, w, ks⟩ := t
  rw [mass]
  have := fr_mass ks
  show w.length + ks.length + 1 ≤ _
  omega

theorem c119 : Contract Try.prog cfg 119 spec119 := by
  refine make119 ?_
  intro t _ hp
  simp only [pre119] at hp
  have hk := kids_le t
  refine vc119 _ _ ?_
  refine loop_rule (ι := Int × Int × Int) (fun p => head119_0 t p.1 p.2.1 p.2.2) (fun p => 0 ≤ p.2.2 ∧ p.2.2 ≤ t.kids.length ∧ p.1 = frW (t.kids.take p.2.2.toNat) ∧ p.2.1 = frK (t.kids.take p.2.2.toNat)) (fun p => ((t.kids.length : Int) - p.2.2).toNat) (0, 0, 0) rfl ⟨by dsimp only; omega, by dsimp only; omega, rfl, rfl⟩ ?_
  rintro ⟨w, k, i⟩ ⟨h1, h2, h3, h4⟩
  dsimp only at h1 h2 h3 h4
  refine vc119_l0 _ _ _ _ _ _ ?_
  (simp only [vcT, vcS])
  refine ⟨fun hi => ⟨⟨h1, hi⟩, by ((unfold InR; omega)), (if w < ((t.kids.getD i.toNat Tree.nil).words.length : Int) then ((t.kids.getD i.toNat Tree.nil).words.length : Int) else w, if k < ((t.kids.getD i.toNat Tree.nil).kids.length : Int) then ((t.kids.getD i.toNat Tree.nil).kids.length : Int) else k, i + 1), rfl, ⟨by dsimp only; omega, by dsimp only; omega, ?_, ?_⟩, by dsimp only; omega⟩, fun hi => ?_⟩
  · dsimp only
    rw [(fr_take h1 hi).1, h3]
    split <;> omega
  · dsimp only
    rw [(fr_take h1 hi).2, h4]
    split <;> omega
  · have e : i = t.kids.length := by omega
    subst e
    rw [Int.toNat_natCast, List.take_length] at h3 h4
    subst h3 h4
    (repeat' (first | exact trivial | exact rfl | refine And.intro ?_ ?_))

theorem c82 : Contract Try.prog cfg 82 spec82 := by
  refine make82 ?_
  intro t _ hp
  simp only [pre82] at hp
  have hk := kids_le t
  refine vc82 _ _ ?_
  refine loop_rule (ι := Int × Int × Int) (fun p => head82_0 t p.1 p.2.1 p.2.2) (fun p => 0 ≤ p.2.2 ∧ p.2.2 ≤ t.kids.length ∧ p.1 = frW (t.kids.take p.2.2.toNat) ∧ p.2.1 = frK (t.kids.take p.2.2.toNat)) (fun p => ((t.kids.length : Int) - p.2.2).toNat) (0, 0, 0) rfl ⟨by dsimp only; omega, by dsimp only; omega, rfl, rfl⟩ ?_
  rintro ⟨w, k, i⟩ ⟨h1, h2, h3, h4⟩
  dsimp only at h1 h2 h3 h4
  have fin : ∀ (hi : i < t.kids.length) {w' k' : Int}, w' = frW (t.kids.take (i + 1).toNat) → k' = frK (t.kids.take (i + 1).toNat) →
      InR (i + 1) ∧ ∃ p : Int × Int × Int, head82_0 t w' k' (i + 1) = head82_0 t p.1 p.2.1 p.2.2 ∧ (0 ≤ p.2.2 ∧ p.2.2 ≤ t.kids.length ∧ p.1 = frW (t.kids.take p.2.2.toNat) ∧ p.2.1 = frK (t.kids.take p.2.2.toNat)) ∧ ((t.kids.length : Int) - p.2.2).toNat < ((t.kids.length : Int) - i).toNat :=
    fun hi w' k' e1 e2 => ⟨by ((unfold InR; omega)), (w', k', i + 1), rfl, ⟨by dsimp only; omega, by dsimp only; omega, e1, e2⟩, by dsimp only; omega⟩
  refine vc82_l0 _ _ _ _ _ _ ?_
  (simp only [vcT, vcS])
  refine ⟨fun hi => ⟨⟨h1, hi⟩, fun hc => ⟨⟨h1, hi⟩, ?_⟩, fun hc => ?_⟩, fun hi => ?_⟩
  · refine vc82_c1 _ _ _ _ _ _ _ ?_
    (simp only [vcT, vcS])
    exact ⟨⟨h1, hi⟩, fun hd => ⟨⟨h1, hi⟩, vc82_c2 _ _ _ _ _ _ _ (fin hi (by rw [(fr_take h1 hi).1]; omega) (by rw [(fr_take h1 hi).2]; omega))⟩, fun hd => vc82_c2 _ _ _ _ _ _ _ (fin hi (by rw [(fr_take h1 hi).1]; omega) (by rw [(fr_take h1 hi).2]; omega))⟩
  · refine vc82_c1 _ _ _ _ _ _ _ ?_
    (simp only [vcT, vcS])
    exact ⟨⟨h1, hi⟩, fun hd => ⟨⟨h1, hi⟩, vc82_c2 _ _ _ _ _ _ _ (fin hi (by rw [(fr_take h1 hi).1]; omega) (by rw [(fr_take h1 hi).2]; omega))⟩, fun hd => vc82_c2 _ _ _ _ _ _ _ (fin hi (by rw [(fr_take h1 hi).1]; omega) (by rw [(fr_take h1 hi).2]; omega))⟩
  · have e : i = t.kids.length := by omega
    subst e
    rw [Int.toNat_natCast, List.take_length] at h3 h4
    subst h3 h4
    (repeat' (first | exact trivial | exact rfl | refine And.intro ?_ ?_))

theorem c123 : Contract Try.prog cfg 123 spec123 := by
  refine make123 ?_
  intro n _ _
  refine vc123 _ _ ?_
  (simp only [vcT, vcS])
  refine ends_bool rfl ?_
  by_cases h1 : -536870912 ≤ n <;> by_cases h2 : n < 536870912 <;> simp [h1, h2]

theorem wrap_u32 (n : Int) : IntKind.wrap .u32 n = n % 4294967296 := by
  simp [IntKind.wrap, IntKind.signed, IntKind.bits]

theorem or_sum32 {x y : Int} {a : Nat} (hx : 0 ≤ x) (hx' : x < 2 ^ a) (hy : 0 ≤ y) (hs : x + y * 2 ^ a < 4294967296) :
    IntKind.wrap .u32 (BitVec.ofInt (IntKind.bits .u32) (y * 2 ^ a) ||| BitVec.ofInt (IntKind.bits .u32) x).toNat = x + y * 2 ^ a := by
  have hp := pow2_pos a
  have h1 : 0 ≤ y * 2 ^ a := Int.mul_nonneg hy (Int.le_of_lt hp)
  have e : ∀ z : Int, 0 ≤ z → z < 4294967296 → (BitVec.ofInt (IntKind.bits .u32) z).toNat = z.toNat := by
    intro z z0 z1
    simp [IntKind.bits]
    omega
  rw [BitVec.toNat_or, e x hx (by omega), e _ h1 (by omega), wrap_u32]
  obtain ⟨m, rfl⟩ := Int.eq_ofNat_of_zero_le hx
  obtain ⟨n, rfl⟩ := Int.eq_ofNat_of_zero_le hy
  have hpn : (2 : Int) ^ a = ((2 ^ a : Nat) : Int) := by simp
  rw [hpn] at hx' hs ⊢
  have hm : m < 2 ^ a := by omega
  have hor : n * 2 ^ a ||| m = m + n * 2 ^ a := by
    have h := Nat.two_pow_add_eq_or_of_lt hm n
    rw [Nat.mul_comm n, ← h, Nat.add_comm]
  rw [← Int.natCast_mul, Int.toNat_natCast, Int.toNat_natCast, hor]
  push_cast
  push_cast at hs
  omega

theorem c125 : Contract Try.prog cfg 125 spec125 := by
  refine make125 ?_
  intro o k _ hp
  obtain ⟨hk0, hk⟩ := hp
  dsimp only at hk0 hk
  refine vc125 _ _ _ ⟨by decide, ends_int rfl ?_⟩
  show _ = 4 * (o % 1073741824) + k
  have e1 : IntKind.wrap .u32 (IntKind.wrap .u32 o * 2 ^ (min (Int.toNat 2) (IntKind.bits .u32))) = o % 1073741824 * 2 ^ 2 := by
    rw [wrap_u32, wrap_u32, show (2 : Int) ^ (min (Int.toNat 2) (IntKind.bits .u32)) = 4 from rfl, show (2 : Int) ^ 2 = 4 from rfl]
    omega
  have e2 : IntKind.wrap .u32 k = k := by rw [wrap_u32]; omega
  rw [e1, e2, or_sum32 hk0 (by rw [show (2 : Int) ^ 2 = 4 from rfl]; omega) (by omega) (by rw [show (2 : Int) ^ 2 = 4 from rfl]; omega), show (2 : Int) ^ 2 = 4 from rfl, wrap_u64 (by omega) (by omega)]
  omega

theorem c103 : Contract Try.prog cfg 103 spec103 := by
  refine make103 ?_
  intro l n _ hp
  obtain ⟨h1, h2, h3⟩ := hp
  dsimp only at h1 h2 h3
  refine vc103 _ _ _ ?_
  refine loop_rule (ι := Int × List Int) (fun p => head103_0 l n p.1 p.2) (fun p => 0 ≤ p.1 ∧ p.1 ≤ n ∧ p.2 = l ++ zs p.1.toNat) (fun p => (n - p.1).toNat) (0, l) rfl ⟨by dsimp only; omega, by dsimp only; omega, by simp [zs]⟩ ?_
  rintro ⟨i, m⟩ ⟨g1, g2, g3⟩
  dsimp only at g1 g2 g3
  refine vc103_l0 _ _ _ _ _ _ ?_
  (simp only [vcT, vcS])
  subst g3
  refine ⟨fun hi => ⟨?_, by ((unfold InR; omega)), (i + 1, _), rfl, ⟨by dsimp only; omega, by dsimp only; omega, ?_⟩, by dsimp only; omega⟩, fun hi => ?_⟩
  · simp only [List.length_append, zs_len, List.length_singleton]
    omega
  · dsimp only
    rw [show (i + 1).toNat = i.toNat + 1 by omega, zs_add]
    simp [zs]
  · have e : i = n := by omega
    subst e
    (repeat' (first | exact trivial | exact rfl | refine And.intro ?_ ?_))

theorem c104 : Contract Try.prog cfg 104 spec104 := by
  refine make104 ?_
  intro t _ hp
  obtain ⟨h1, h2⟩ := hp
  dsimp only at h1 h2
  have hk := kids_le t
  refine vc104 _ _ ?_
  refine loop_rule (ι := Int × List Int) (fun p => head104_0 t p.1 p.2) (fun p => 0 ≤ p.1 ∧ p.1 ≤ t.kids.length ∧ p.2 = numsP (t.kids.take p.1.toNat)) (fun p => ((t.kids.length : Int) - p.1).toNat) (0, []) rfl ⟨by dsimp only; omega, by dsimp only; omega, rfl⟩ ?_
  rintro ⟨i, m⟩ ⟨g1, g2, g3⟩
  dsimp only at g1 g2 g3
  refine vc104_l0 _ _ _ _ _ ?_
  (simp only [vcT, vcS])
  subst g3
  refine ⟨fun hi => ?_, fun hi => ?_⟩
  · have hw := h2 _ (mem_getD (l := t.kids) (i := i.toNat) (by omega) Tree.nil)
    have hl : (numsP (t.kids.take i.toNat)).length ≤ t.kids.length := by rw [numsP, List.length_map, List.length_take]; omega
    refine ⟨⟨g1, hi⟩, ⟨by omega, by omega⟩, ?_, by ((unfold InR; omega)), (i + 1, _), rfl, ⟨by dsimp only; omega, by dsimp only; omega, ?_⟩, by dsimp only; omega⟩
    · simp only [List.length_singleton]
      omega
    · dsimp only
      rw [takeI g1 hi, numsP, numsP, List.map_append]
      rfl
  · have e : i = t.kids.length := by omega
    subst e
    rw [Int.toNat_natCast, List.take_length]
    (repeat' (first | exact trivial | exact rfl | refine And.intro ?_ ?_))

theorem c102 : Contract Try.prog cfg 102 spec102 := by
  refine make102 ?_
  intro a to k up _ hp
  obtain ⟨⟨h1, h2, h3⟩, ⟨h4, h5⟩, h6, h7⟩ := hp
  dsimp only at h1 h2 h3 h4 h5 h6 h7
  have fin : ∀ {x : Int}, x = (to - a - 1) % 1073741824 → IntKind.wrap .u64 (IntKind.wrap .u64 (4 * x + k) + IntKind.wrap .u64 (up * 4294967296)) = ptrP a to k up := by
    intro x hx
    have hx0 := Int.emod_nonneg (to - a - 1) (show (1073741824 : Int) ≠ 0 by decide)
    have hx1 := Int.emod_lt_of_pos (to - a - 1) (show (0 : Int) < 1073741824 by decide)
    rw [wrap_u64 (n := 4 * x + k) (by omega) (by omega), wrap_u64 (n := up * 4294967296) (by omega) (by omega), wrap_u64 (by omega) (by omega)]
    unfold ptrP
    omega
  refine vc102 _ _ _ _ _ ?_
  (simp only [vcT, vcS])
  exact ⟨by ((unfold InR; omega)), by ((unfold InR; omega)), fun h => ⟨by ((unfold InR; omega)), by ((unfold InR; omega)), by ((unfold InR; omega)), ends_int rfl (fin (by omega))⟩, fun h => ⟨by ((unfold InR; omega)), by ((unfold InR; omega)), ends_int rfl (fin (by omega))⟩⟩

end Go.AM.Ythokdjgpdonhgaa

namespace Go.AM.Ythokdjgpdonhgaa
open Go.AM Go.Proofs

theorem shl64 {d k : Int} (n : Nat) (hk : min (Int.toNat k) (IntKind.bits .u64) = n) (h0 : 0 ≤ d) (h1 : d < 18446744073709551616) (h2 : d * 2 ^ n < 18446744073709551616) : IntKind.wrap .u64 (IntKind.wrap .u64 d * 2 ^ (min (Int.toNat k) (IntKind.bits .u64))) = d * 2 ^ n := by
  rw [hk, wrap_u64 h0 h1]
  exact wrap_u64 (Int.mul_nonneg h0 (Int.le_of_lt (pow2_pos n))) h2

theorem encW_rng (p : Ptr) : 0 ≤ encW p ∧ encW p < 18446744073709551616 := by
  unfold encW
  have h0 := Int.emod_nonneg p.off (show (1073741824 : Int) ≠ 0 by decide)
  have h1 := Int.emod_lt_of_pos p.off (show (0 : Int) < 1073741824 by decide)
  repeat' split
  all_goals omega

theorem c120 : Contract Try.prog cfg 120 spec120 := by
  refine make120 c123 c124 c125 c86 ?_
  intro p _ hp
  simp only [pre120] at hp
  have hr := encW_rng p
  have o0 := Int.emod_nonneg p.off (show (1073741824 : Int) ≠ 0 by decide)
  have o1 := Int.emod_lt_of_pos p.off (show (0 : Int) < 1073741824 by decide)
  have fin : ∀ {x : Int} {v1 v2 v3 v4 v5 : V U}, x = encW p → A120 [1, 1, 1] (head120_0 p x v1 v2 v3 v4 v5) (EndsQ cfg Try.f120.ntmps Try.f120.results.toList (res120 (p, ())) []) := by
    intro x v1 v2 v3 v4 v5 hx
    refine vc120_c0 _ _ _ _ _ _ _ _ ?_
    refine ⟨by subst hx; exact hr, fun h => h, fun h => h, fun h => h, ?_⟩
    refine ends_eq (r' := .tup [(false, [.int .u64 x]), (false, [.bool (bif eqP (decP x) p then (p.kind != 4) else false)])]) ?_ (by (repeat' (first | exact trivial | exact rfl | refine And.intro ?_ ?_)))
    simp only [res120]
    subst hx
    cases eqP (decP (encW p)) p <;> rfl
  have e32 : min (Int.toNat 32) (IntKind.bits .u64) = 32 := rfl
  have e48 : min (Int.toNat 48) (IntKind.bits .u64) = 48 := rfl
  have e35 : min (Int.toNat 35) (IntKind.bits .u64) = 35 := rfl
  have q32 : (2 : Int) ^ 32 = 4294967296 := rfl
  have q48 : (2 : Int) ^ 48 = 281474976710656 := rfl
  have q35 : (2 : Int) ^ 35 = 34359738368 := rfl
  refine vc120 _ _ ?_
  (simp only [vcT, vcS])
  refine ⟨fun k1 => ⟨trivial, fun _ => trivial, fun _ => trivial, fun c => ⟨⟨by dsimp only; omega, by dsimp only; omega⟩, by decide, by decide, fin ?_⟩, fun c => fin ?_⟩, fun k1 => ⟨fun k2 => ⟨trivial, fun _ => trivial, fun _ => trivial, fun c => ⟨⟨by dsimp only; omega, by dsimp only; omega⟩, by decide, by decide, fin ?_⟩, fun c => fin ?_⟩, fun k2 => by rcases hp with h | h; exact absurd h k1; exact absurd h k2⟩⟩
  · obtain ⟨⟨c1, c2⟩, c3⟩ := c
    rw [shl64 32 e32 (by omega) (by omega) (by omega), shl64 48 e48 (by omega) (by omega) (by omega), or_sum (x := 4 * (p.off % 1073741824) + 0) (y := p.data) (a := 32) (by omega) (by omega) (by omega) (by omega), or_sum (y := p.ptrs) (a := 48) (by omega) (by omega) (by omega) (by omega)]
    unfold encW
    rw [if_pos k1, if_pos ⟨c1, c2, c3⟩]
    omega
  · unfold encW
    rw [if_pos k1, if_neg (by omega)]
  · obtain ⟨⟨c1, c2⟩, c3⟩ := c
    rw [shl64 32 e32 (by omega) (by omega) (by omega), shl64 35 e35 (by omega) (by omega) (by omega), or_sum (x := 4 * (p.off % 1073741824) + 1) (y := p.code) (a := 32) (by omega) (by omega) (by omega) (by omega), or_sum (y := p.count) (a := 35) (by omega) (by omega) (by omega) (by omega)]
    unfold encW
    rw [if_neg k1, if_pos k2, if_pos ⟨c1, c2, c3⟩]
    omega
  · unfold encW
    rw [if_neg k1, if_pos k2, if_neg (by omega)]

theorem c75 : Contract Try.prog cfg 75 spec75 := by
  refine make75 ?_
  intro l n _ hp
  obtain ⟨h1, h2, h3⟩ := hp
  dsimp only at h1 h2 h3
  refine vc75 _ _ _ ⟨⟨h2, by dsimp only; omega⟩, ?_⟩
  (repeat' (first | exact trivial | exact rfl | refine And.intro ?_ ?_))

theorem c1075 : Contract Try.prog cfg 75 spec1075 := by
  refine make1075 ?_
  intro l n _ hp
  obtain ⟨h1, h2, h3⟩ := hp
  dsimp only at h1 h2 h3
  subst h1
  refine vc1075 _ _ _ ⟨⟨h2, by simp; omega⟩, ?_⟩
  (repeat' (first | exact trivial | exact rfl | refine And.intro ?_ ?_))

theorem c96 : Contract Try.prog cfg 96 spec96 := by
  refine make96 c120 ?_
  intro l a to p _ hp
  obtain ⟨⟨h1, h2, h3, h4⟩, hk⟩ := hp
  dsimp only at h1 h2 h3 h4 hk
  have he := pnt_enc hk h1 h3 (by omega) (by omega)
  have kk : p.kind = 1 ∨ p.kind = 2 := by rcases hk.1 with h | h; exact .inl h.1; exact .inr h.1
  have hb : ∀ y, y = pntP a to p → (eqP (decP (encW y)) y && !decide (y.kind = 4)) = true ∧ encW y = pntW a to p := by
    rintro y rfl
    rw [he.2, eqP_self, he.1]
    refine ⟨?_, rfl⟩
    have : (pntP a to p).kind = p.kind := rfl
    rw [this]
    simp only [Bool.true_and, Bool.not_eq_true', decide_eq_false_iff_not]
    omega
  refine vc96 _ _ _ _ _ ?_
  intro y1 e1 y2 e2
  (simp only [vcT, vcS])
  refine ⟨by ((unfold InR; omega)), by ((unfold InR; omega)), fun h => ?_, fun h => ⟨?_, ⟨h1, h2⟩, Nat.zero_le _, ?_⟩, fun h => ⟨?_, ⟨h1, h2⟩, Nat.zero_le _, ?_⟩⟩
  · rcases hk.1 with g | g <;> ((unfold InR; omega))
  · subst e1; exact kk
  · obtain ⟨g1, g2⟩ := hb y1 (by rw [e1]; unfold pntP; rw [if_pos h])
    rw [g1, g2]
    (repeat' (first | exact trivial | exact rfl | refine And.intro ?_ ?_))
  · subst e2; exact kk
  · obtain ⟨g1, g2⟩ := hb y2 (by rw [e2]; unfold pntP; rw [if_neg (by omega)])
    rw [g1, g2]
    (repeat' (first | exact trivial | exact rfl | refine And.intro ?_ ?_))

theorem sizeK_app : ∀ a b : List Tree, sizeK (a ++ b) = sizeK a + sizeK b
  | [], b => by simp [sizeK]
  | t :: r, b => by rw [List.cons_append, sizeK, sizeK, sizeK_app r b]; omega
theorem sizeR_app : ∀ a b : List Tree, sizeR (a ++ b) = sizeR a + sizeR b
  | [], b => by simp [sizeR]
  | .mk _ _ ks :: r, b => by rw [List.cons_append, sizeR, sizeR, sizeR_app r b]; omega
theorem sizeK_take {ks : List Tree} {i : Int} (h0 : 0 ≤ i) (h : i < ks.length) : sizeK (ks.take (i + 1).toNat) = sizeK (ks.take i.toNat) + sizeN (ks.getD i.toNat Tree.nil) := by
  rw [takeI h0 h, sizeK_app, sizeK, sizeK]; rfl
theorem sizeR_take {ks : List Tree} {i : Int} (h0 : 0 ≤ i) (h : i < ks.length) : sizeR (ks.take (i + 1).toNat) = sizeR (ks.take i.toNat) + sizeK (ks.getD i.toNat Tree.nil).kids := by
  rw [takeI h0 h, sizeR_app]
  cases ks.getD i.toNat Tree.nil
  rw [sizeR, sizeR]; rfl
theorem sizeK_take_le (ks : List Tree) (n : Nat) : sizeK (ks.take n) ≤ sizeK ks := by
  conv => rhs; rw [← List.take_append_drop n ks, sizeK_app]
  omega
theorem sizeR_take_le (ks : List Tree) (n : Nat) : sizeR (ks.take n) ≤ sizeR ks := by
  conv => rhs; rw [← List.take_append_drop n ks, sizeR_app]
  omega
theorem kid_mass {t : Tree} {i : Nat} (h : i < t.kids.length) : mass (t.kids.getD i Tree.nil) + 1 ≤ mass t := by
  obtain ⟨k, w, ks⟩ := t
  have := mem_getD (l := ks) h Tree.nil
  have hm : ∀ {l : List Tree} {x : Tree}, x ∈ l → mass x ≤ massK l := by
    intro l
    induction l with
    | nil => intro x hx; cases hx
    | cons y l ih =>
      intro x hx
      rw [massK]
      rcases List.mem_cons.1 hx with rfl | hx
      · omega
      · have := ih hx; omega
  have := hm this
  rw [mass]
  show mass (ks.getD i Tree.nil) + 1 ≤ _
  omega
theorem size_le {t : Tree} (h : mass t ≤ 1000000) : sizeN t ≤ 1000000000000 := Nat.le_trans (size_mass t) (Nat.le_trans (Nat.mul_le_mul h h) (by decide))

theorem c54 : Contract Try.prog cfg 54 spec54 := by
  refine make54 c82 c57 ?_
  intro N t _ hp hN
  simp only [pre54] at hp
  have hN : mass t < N + 1 := hN
  have hk := kids_le t
  have hs := size_le hp
  have hK := sizeK_mass t.kids
  have low : ∀ {x : Int} {v : V U}, x + sizeK t.kids = sizeN t → 0 ≤ x → A54 N [1, 1, 1] (head54_0 t x v) (EndsQ cfg Try.f54.ntmps Try.f54.results.toList (res54 (t, ())) []) := by
    intro x v hx h0
    refine vc54_c0 _ _ _ _ _ ?_
    refine loop_rule (ι := Int × Int) (fun p => head54_2 t p.1 p.2) (fun p => 0 ≤ p.2 ∧ p.2 ≤ t.kids.length ∧ p.1 = x + sizeK (t.kids.take p.2.toNat)) (fun p => ((t.kids.length : Int) - p.2).toNat) (x, 0) rfl ⟨by dsimp only; omega, by dsimp only; omega, by simp [sizeK]⟩ ?_
    rintro ⟨s, i⟩ ⟨g1, g2, g3⟩
    dsimp only at g1 g2 g3
    refine vc54_l2 _ _ _ _ _ _ ?_
    (simp only [vcT, vcS])
    simp only [Tree.eta]
    refine ⟨fun hi => ?_, fun hi => ?_⟩
    · have hm := kid_mass (t := t) (i := i.toNat) (by omega)
      have ht := sizeK_take g1 hi
      have hl := sizeK_take_le t.kids (i + 1).toNat
      have q1 : mass (t.kids.getD i.toNat Tree.nil) ≤ 1000000 := by omega
      have q2 : mass (t.kids.getD i.toNat Tree.nil) < N := by omega
      exact ⟨⟨g1, hi⟩, q1, q2, by ((unfold InR; omega)), by ((unfold InR; omega)), (s + sizeN (t.kids.getD i.toNat Tree.nil), i + 1), rfl, ⟨by dsimp only; omega, by dsimp only; omega, by dsimp only; omega⟩, by dsimp only; omega⟩
    · have e : i = t.kids.length := by omega
      subst e
      rw [Int.toNat_natCast, List.take_length] at g3
      exact ends_int rfl (by show s = (sizeN t : Int); omega)
  have esz : sizeN t = if t.kind = 1 then t.words.length + t.kids.length + sizeK t.kids else if t.kind = 8 then t.kids.length + sizeK t.kids else if t.kind = 9 then 1 + t.kids.length * (frW t.kids + frK t.kids) + sizeR t.kids
      else if 2 ≤ t.kind ∧ t.kind ≤ 7 then (roomW (t.kind - 2) t.kids.length).toNat else sizeK t.kids := by
    obtain ⟨k, w, ks⟩ := t
    rw [sizeN]; rfl
  have mid : ∀ {b : Bool}, (b = true → 2 ≤ t.kind ∧ t.kind ≤ 7) → (b = false → t.kind ≠ 1 ∧ t.kind ≠ 8 ∧ ¬(2 ≤ t.kind ∧ t.kind ≤ 7)) → A54 N [1, 1, 0, 1, 0, 1, 1, 1, 1, 1] (head54_1 t b) (AExit.inBlock 0 (S54 N [1, 1, 1] (EndsQ cfg Try.f54.ntmps Try.f54.results.toList (res54 (t, ())) []))) := by
    intro b hb hb'
    refine vc54_c1 _ _ _ _ ?_
    (simp only [vcT, vcS])
    simp only [Tree.eta]
    refine ⟨fun h => ?_, fun h => ⟨fun h9 => ?_, fun h9 => ?_⟩⟩
    · have := hb h
      refine ⟨by ((unfold InR; omega)), trivial, ends_int rfl ?_⟩
      show roomW _ _ = (sizeN t : Int)
      have hr : 0 ≤ roomW (t.kind - 2) t.kids.length := by
        unfold roomW
        split
        · omega
        · rcases wd_div (t.kind - 2) with e | e | e | e | e | e
          · omega
          all_goals (rw [e]; omega)
      rw [esz, if_neg (by omega), if_neg (by omega), if_neg (by omega), if_pos this]
      omega
    · rw [if_neg (by omega), if_neg (by omega), if_pos h9] at esz
      have hf := fr_mass t.kids
      have hmk : massK t.kids ≤ mass t := by obtain ⟨k, w, ks⟩ := t; rw [mass]; show massK ks ≤ _; omega
      obtain ⟨P, hP⟩ : ∃ P, P = t.kids.length * (frW t.kids + frK t.kids) := ⟨_, rfl⟩
      have hPI : (t.kids.length : Int) * ((frW t.kids : Int) + frK t.kids) = P := by rw [hP, Int.natCast_mul, Int.natCast_add]
      rw [← hP] at esz
      rw [hPI]
      refine ⟨hp, by ((unfold InR; omega)), by ((unfold InR; omega)), by ((unfold InR; omega)), ?_⟩
      refine loop_rule (ι := Int × Int) (fun p => head54_3 t p.1 p.2) (fun p => 0 ≤ p.1 ∧ p.1 ≤ t.kids.length ∧ p.2 = 1 + (P : Int) + sizeR (t.kids.take p.1.toNat)) (fun p => ((t.kids.length : Int) - p.1).toNat) (0, 1 + (P : Int)) rfl ⟨by dsimp only; omega, by dsimp only; omega, ?_⟩ ?_
      · simp [sizeR]
      rintro ⟨i, s⟩ ⟨g1, g2, g3⟩
      dsimp only at g1 g2 g3
      refine vc54_l3 _ _ _ _ _ _ ?_
      (simp only [vcT, vcS])
      refine ⟨fun hi => ?_, fun hi => ?_⟩
      · have hm := kid_mass (t := t) (i := i.toNat) (by omega)
        have ht := sizeR_take g1 hi
        have hl := sizeR_take_le t.kids (i + 1).toNat
        refine loop_rule (ι := Int × Int) (fun p => head54_4 t i p.1 p.2) (fun p => 0 ≤ p.2 ∧ p.2 ≤ (t.kids.getD i.toNat Tree.nil).kids.length ∧ p.1 = s + sizeK ((t.kids.getD i.toNat Tree.nil).kids.take p.2.toNat)) (fun p => (((t.kids.getD i.toNat Tree.nil).kids.length : Int) - p.2).toNat) (s, 0) rfl ⟨by dsimp only; omega, by dsimp only; omega, by simp [sizeK]⟩ ?_
        rintro ⟨s2, j⟩ ⟨f1, f2, f3⟩
        dsimp only at f1 f2 f3
        refine vc54_l4 _ _ _ _ _ _ _ _ ?_
        rintro y1 rfl y2 rfl y3 rfl
        (simp only [vcT, vcS])
        refine ⟨⟨g1, hi⟩, fun hj => ?_, fun hj => ?_⟩
        · have hm2 := kid_mass (t := t.kids.getD i.toNat Tree.nil) (i := j.toNat) (by omega)
          have hk2 := kids_le (t.kids.getD i.toNat Tree.nil)
          have ht2 := sizeK_take f1 hj
          have hl2 := sizeK_take_le (t.kids.getD i.toNat Tree.nil).kids (j + 1).toNat
          have q1 : mass ((t.kids.getD i.toNat Tree.nil).kids.getD j.toNat Tree.nil) ≤ 1000000 := by omega
          have q2 : mass ((t.kids.getD i.toNat Tree.nil).kids.getD j.toNat Tree.nil) < N := by omega
          exact ⟨⟨g1, hi⟩, ⟨f1, hj⟩, q1, q2, by ((unfold InR; omega)), by ((unfold InR; omega)), (s2 + sizeN ((t.kids.getD i.toNat Tree.nil).kids.getD j.toNat Tree.nil), j + 1), rfl, ⟨by dsimp only; omega, by dsimp only; omega, by dsimp only; omega⟩, by dsimp only; omega⟩
        · have e : j = (t.kids.getD i.toNat Tree.nil).kids.length := by omega
          subst e
          rw [Int.toNat_natCast, List.take_length] at f3
          exact ⟨by ((unfold InR; omega)), (i + 1, s2), rfl, ⟨by dsimp only; omega, by dsimp only; omega, by dsimp only; omega⟩, by dsimp only; omega⟩
      · have e : i = t.kids.length := by omega
        subst e
        rw [Int.toNat_natCast, List.take_length] at g3
        exact ends_int rfl (by show s = (sizeN t : Int); omega)
    · have := hb' h
      refine low ?_ (Int.le_refl _)
      rw [esz, if_neg (by omega), if_neg (by omega), if_neg h9, if_neg this.2.2]
      omega
  refine vc54 _ _ _ ?_
  (simp only [vcT, vcS])
  refine ⟨fun h => ⟨by ((unfold InR; omega)), low (by rw [esz, if_pos h]; omega) (by omega)⟩, fun h1 => ⟨fun h => low (by rw [esz, if_neg h1, if_pos h]; omega) (by omega), fun h8 => ⟨fun h => mid ?_ ?_, fun n2 => ⟨fun h => mid ?_ ?_, fun n3 => ⟨fun h => mid ?_ ?_, fun n4 => ⟨fun h => mid ?_ ?_, fun n5 => ⟨fun h => mid ?_ ?_, fun n6 => mid ?_ ?_⟩⟩⟩⟩⟩⟩⟩
  all_goals first | (intro hh; have := eq_of_beq hh; omega) | (intro hh; have := ne_of_beq_false hh; omega)

theorem c95 : Contract Try.prog cfg 95 spec95 := by
  refine make95 c119 c118 c107 ?_
  intro N t _ hp hN
  obtain ⟨hp, d, hr⟩ := hp
  dsimp only at hp hr
  have hN : mass t < N + 1 := hN
  have hk := kids_le t
  have hs := size_le hp
  have rt : RiT t.kind t.words t.kids d := riT (by rw [Tree.eta]; exact hr)
  have esz : sizeN t = if t.kind = 1 then t.words.length + t.kids.length + sizeK t.kids else if t.kind = 8 then t.kids.length + sizeK t.kids else if t.kind = 9 then 1 + t.kids.length * (frW t.kids + frK t.kids) + sizeR t.kids
      else if 2 ≤ t.kind ∧ t.kind ≤ 7 then (roomW (t.kind - 2) t.kids.length).toNat else sizeK t.kids := by
    obtain ⟨k, w, ks⟩ := t
    rw [sizeN]; rfl
  have low : ∀ {x : Int} {K : AExit → LSt U → Prop}, x + sizeK t.kids = sizeN t → 0 ≤ x → (∀ s : LSt U, K .ret s = EndsQ cfg Try.f95.ntmps Try.f95.results.toList (res95 (t, ())) [] .ret s) → True := fun _ _ _ => trivial
  have loopL : ∀ {x : Int}, x + sizeK t.kids = sizeN t → 0 ≤ x → LoopWp (A95 N [1, 1, 1, 0, 1, 0, 0]) (head95_0 t x 0) (AExit.inBlock 3 (S95 N [1, 1, 1, 1] (EndsQ cfg Try.f95.ntmps Try.f95.results.toList (res95 (t, ())) []))) := by
    intro x hx h0
    refine loop_rule (ι := Int × Int) (fun p => head95_0 t p.1 p.2) (fun p => 0 ≤ p.2 ∧ p.2 ≤ t.kids.length ∧ p.1 = x + sizeK (t.kids.take p.2.toNat)) (fun p => ((t.kids.length : Int) - p.2).toNat) (x, 0) rfl ⟨by dsimp only; omega, by dsimp only; omega, by simp [sizeK]⟩ ?_
    rintro ⟨s, i⟩ ⟨g1, g2, g3⟩
    dsimp only at g1 g2 g3
    refine vc95_l0 _ _ _ _ _ _ ?_
    (simp only [vcT, vcS])
    simp only [Tree.eta]
    refine ⟨fun hi => ?_, fun hi => ?_⟩
    · have hm := kid_mass (t := t) (i := i.toNat) (by omega)
      have ht := sizeK_take g1 hi
      have hl := sizeK_take_le t.kids (i + 1).toNat
      have q1 : mass (t.kids.getD i.toNat Tree.nil) ≤ 1000000 := by omega
      have q2 : mass (t.kids.getD i.toNat Tree.nil) < N := by omega
      exact ⟨⟨g1, hi⟩, ⟨q1, _, (rt.kids _ (mem_getD (by omega) _)).1⟩, q2, by ((unfold InR; omega)), by ((unfold InR; omega)), (s + sizeN (t.kids.getD i.toNat Tree.nil), i + 1), rfl, ⟨by dsimp only; omega, by dsimp only; omega, by dsimp only; omega⟩, by dsimp only; omega⟩
    · have e : i = t.kids.length := by omega
      subst e
      rw [Int.toNat_natCast, List.take_length] at g3
      exact ends_int rfl (by show s = (sizeN t : Int); omega)
  refine vc95 _ _ _ ?_
  rintro y1 rfl
  (simp only [vcT, vcS])
  refine ⟨fun h => ⟨by ((unfold InR; omega)), loopL (by rw [esz, if_pos h]; omega) (by omega)⟩, fun h1 => ⟨fun h => loopL (by rw [esz, if_neg h1, if_pos h]; omega) (by omega), fun h8 => ⟨trivial, fun h => ?_, fun h27 => ⟨fun h9 => ?_, fun h9 => loopL (by rw [esz, if_neg h1, if_neg h8, if_neg h9, if_neg h27]; omega) (Int.le_refl _)⟩⟩⟩⟩
  · refine ⟨by ((unfold InR; omega)), trivial, ends_int rfl ?_⟩
    show roomW _ _ = (sizeN y1 : Int)
    have hr : 0 ≤ roomW (y1.kind - 2) y1.kids.length := by
      unfold roomW
      split
      · omega
      · rcases wd_div (y1.kind - 2) with e | e | e | e | e | e
        · omega
        all_goals (rw [e]; omega)
    rw [esz, if_neg (by omega), if_neg (by omega), if_neg (by omega), if_pos h]
    omega
  · rw [if_neg (by omega), if_neg (by omega), if_pos h9] at esz
    have hf := fr_mass y1.kids
    have hmk : massK y1.kids ≤ mass y1 := by obtain ⟨k, w, ks⟩ := y1; rw [mass]; show massK ks ≤ _; omega
    obtain ⟨P, hP⟩ : ∃ P, P = y1.kids.length * (frW y1.kids + frK y1.kids) := ⟨_, rfl⟩
    have hPI : (y1.kids.length : Int) * ((frW y1.kids : Int) + frK y1.kids) = P := by rw [hP, Int.natCast_mul, Int.natCast_add]
    rw [← hP] at esz
    rw [hPI]
    refine ⟨hp, by ((unfold InR; omega)), by ((unfold InR; omega)), by ((unfold InR; omega)), ?_⟩
    refine loop_rule (ι := Int × Int) (fun p => head95_1 y1 p.1 p.2) (fun p => 0 ≤ p.2 ∧ p.2 ≤ y1.kids.length ∧ p.1 = 1 + (P : Int) + sizeR (y1.kids.take p.2.toNat)) (fun p => ((y1.kids.length : Int) - p.2).toNat) (1 + (P : Int), 0) rfl ⟨by dsimp only; omega, by dsimp only; omega, ?_⟩ ?_
    · simp [sizeR]
    rintro ⟨s, i⟩ ⟨g1, g2, g3⟩
    dsimp only at g1 g2 g3
    refine vc95_l1 _ _ _ _ _ _ ?_
    rintro y2 rfl y3 rfl
    (simp only [vcT, vcS])
    refine ⟨fun hi => ?_, fun hi => ?_⟩
    · have hm := kid_mass (t := y1) (i := i.toNat) (by omega)
      have ht := sizeR_take g1 hi
      have hl := sizeR_take_le y1.kids (i + 1).toNat
      have hmem := mem_getD (l := y1.kids) (i := i.toNat) (by omega) Tree.nil
      have hk1 := (rt.kids _ hmem).2.2.2 h9
      have hkr := (rt.kids _ hmem).1
      generalize y1.kids.getD i.toNat Tree.nil = y at *
      have ey : sizeN y = y.words.length + y.kids.length + sizeK y.kids := by
        obtain ⟨k, w, ks⟩ := y
        have hk1 : k = 1 := hk1
        rw [sizeN, if_pos hk1]; rfl
      have q1 : mass y ≤ 1000000 := by omega
      have qs := size_le q1
      have hs' : sizeN y1 ≤ 1000000000000 := hs
      have q2 : mass y < N := by omega
      exact ⟨⟨g1, hi⟩, ⟨q1, _, hkr⟩, q2, by ((unfold InR; omega)), by ((unfold InR; omega)), by ((unfold InR; omega)), by ((unfold InR; omega)), (s + ((sizeN y : Int) - y.words.length - y.kids.length), i + 1), rfl, ⟨by dsimp only; omega, by dsimp only; omega, by dsimp only; omega⟩, by dsimp only; omega⟩
    · have e : i = y1.kids.length := by omega
      subst e
      rw [Int.toNat_natCast, List.take_length] at g3
      exact ends_int rfl (by show s = (sizeN y1 : Int); omega)

theorem c73 : Contract Try.prog cfg 73 spec73 := by
  refine make73 c72 c95 ?_
  intro t _ hp
  obtain ⟨hp, d, hr⟩ := hp
  dsimp only at hp hr
  have hm := normT_mass t
  refine vc73 _ _ ?_
  simp only [Tree.eta]
  exact ⟨by show mass t ≤ _; omega, ⟨by dsimp only; omega, d, rightT_norm t d hr⟩, ends_int rfl rfl⟩

end Go.AM.Ythokdjgpdonhgaa

namespace Go.AM.Ythokdjgpdonhgaa
open Go.AM Go.Proofs

theorem fs_conv {f : FuncId} {α : Type} {A : ArgL α} {pre pre' : α → Prop} {res res' : α → V U} (h : Contract Try.prog cfg f (fs A (fun a => [pre a]) res)) (hh : ∀ a, pre' a → pre a ∧ res a = res' a) : Contract Try.prog cfg f (fs A (fun a => [pre' a]) res') := by
  refine contract_mk h.1 rfl ?_
  intro args X ps r X' hs hps
  unfold fs at hs
  simp only at hs
  split at hs
  · split at hs
    · rename_i a ha
      cases hs
      obtain ⟨h1, h2⟩ := hh a hps.1
      rw [← h2]
      exact h.one rfl args [] [pre a] _ [] (by unfold fs; simp only [ha]) ⟨h1, trivial⟩
    · cases hs
  · cases hs

def pre1101 (a : Int × List Int × Unit) : Prop := (okW a.2.1 ∧ a.2.1.length ≤ 1099511627776) ∧ fitsA a.1 a.2.1 = true
noncomputable def res1101 (a : Int × List Int × Unit) : V U := .tup [(false, [.slice (U := U) .u64 (putW a.1 a.2.1) .unk]), (false, [.bool true])]
noncomputable def spec1101 : Fs U := fs args101 (fun a => [pre1101 a]) res1101
theorem c1101 : Contract Try.prog cfg 101 spec1101 := fs_conv c101 fun a h => ⟨h.1, by
  unfold res101 res1101
  rw [h.2]
  unfold putR
  rw [if_pos h.2]⟩

end Go.AM.Ythokdjgpdonhgaa

namespace Go.AM.Ythokdjgpdonhgaa
open Go.AM Go.Proofs

def args74 : ArgM ((List Int × Unit) × Int × Tree × Unit) := (.obj 0 (.cons (cWr .u64 0 0) .nil) (.cons (aInt .i64) (.cons (aEl .tree) .nil)))
def pre74 (a : (List Int × Unit) × Int × Tree × Unit) : Prop := (0 ≤ a.2.1 ∧ a.2.1 < a.1.1.length ∧ a.1.1.length + sizeN a.2.2.1 ≤ 1000000) ∧ (mass a.2.2.1 ≤ 1000000 ∧ rng a.2.2.1) ∧ Tree.kind a.2.2.1 ≠ 10 ∧ ∃ d, rightT a.2.2.1 d = true
def mu74 (a : (List Int × Unit) × Int × Tree × Unit) : Nat := 4 * mass a.2.2.1 + 3
noncomputable def res74 (a : (List Int × Unit) × Int × Tree × Unit) : V U := .c (.bool true)
noncomputable def resX74 (a : (List Int × Unit) × Int × Tree × Unit) : List (List (C U)) := [[.mref (.x 0 0)]]
noncomputable def resL74 (a : (List Int × Unit) × Int × Tree × Unit) : List (Tok × LC U) := [(.x 0 0, LC.mk (U := U) .u64 (layP a.1.1 a.2.1 a.2.2.1) 0)]
noncomputable def spec74 : Fs U := fsXL args74 (fun a => [pre74 a]) res74 resX74 resL74

def args99 : ArgM ((List Int × Unit) × Int × Tree × Unit) := (.obj 0 (.cons (cWr .u64 0 0) .nil) (.cons (aInt .i64) (.cons (aEl .tree) .nil)))
def pre99 (a : (List Int × Unit) × Int × Tree × Unit) : Prop := (0 ≤ a.2.1 ∧ a.1.1.length + sizeK (Tree.kids a.2.2.1) ≤ 1000000 ∧ zsAt a.1.1 (Int.toNat a.2.1) (Tree.kids a.2.2.1).length) ∧ (mass a.2.2.1 ≤ 1000000 ∧ rng a.2.2.1) ∧ ∀ k ∈ Tree.kids a.2.2.1, Tree.kind k ≠ 10 ∧ ∃ d, rightT k d = true
def mu99 (a : (List Int × Unit) × Int × Tree × Unit) : Nat := 4 * mass a.2.2.1 + 1
noncomputable def res99 (a : (List Int × Unit) × Int × Tree × Unit) : V U := .c (.bool true)
noncomputable def resX99 (a : (List Int × Unit) × Int × Tree × Unit) : List (List (C U)) := [[.mref (.x 0 0)]]
noncomputable def resL99 (a : (List Int × Unit) × Int × Tree × Unit) : List (Tok × LC U) := [(.x 0 0, LC.mk (U := U) .u64 (kidsR a.1.1 a.2.1 a.2.2.1) 0)]
noncomputable def spec99 : Fs U := fsXL args99 (fun a => [pre99 a]) res99 resX99 resL99

def args97 : ArgM ((List Int × Unit) × Int × Int × Tree × Unit) := (.obj 0 (.cons (cWr .u64 0 0) .nil) (.cons (aInt .i64) (.cons (aInt .i64) (.cons (aEl .tree) .nil))))
def pre97 (a : (List Int × Unit) × Int × Int × Tree × Unit) : Prop := ((0 ≤ a.2.1 ∧ (Tree.words a.2.2.2.1).length ≤ a.2.2.1) ∧ a.1.1.length + sizeK (Tree.kids a.2.2.2.1) ≤ 1000000 ∧ zsAt a.1.1 (Int.toNat a.2.1) (Int.toNat a.2.2.1 + (Tree.kids a.2.2.2.1).length)) ∧ (mass a.2.2.2.1 ≤ 1000000 ∧ rng a.2.2.2.1) ∧ ∀ k ∈ Tree.kids a.2.2.2.1, Tree.kind k ≠ 10 ∧ ∃ d, rightT k d = true
def mu97 (a : (List Int × Unit) × Int × Int × Tree × Unit) : Nat := 4 * mass a.2.2.2.1 + 2
noncomputable def res97 (a : (List Int × Unit) × Int × Int × Tree × Unit) : V U := .c (.bool true)
noncomputable def resX97 (a : (List Int × Unit) × Int × Int × Tree × Unit) : List (List (C U)) := [[.mref (.x 0 0)]]
noncomputable def resL97 (a : (List Int × Unit) × Int × Int × Tree × Unit) : List (Tok × LC U) := [(.x 0 0, LC.mk (U := U) .u64 (strR a.1.1 a.2.1 a.2.2.1 a.2.2.2.1) 0)]
noncomputable def spec97 : Fs U := fsXL args97 (fun a => [pre97 a]) res97 resX97 resL97

def args98 : ArgM ((List Int × Unit) × Int × Tree × Unit) := (.obj 0 (.cons (cWr .u64 0 0) .nil) (.cons (aInt .i64) (.cons (aEl .tree) .nil)))
def pre98 (a : (List Int × Unit) × Int × Tree × Unit) : Prop := (0 ≤ a.2.1 ∧ a.2.1 < a.1.1.length ∧ a.1.1.length + sizeN a.2.2.1 ≤ 1000000) ∧ (mass a.2.2.1 ≤ 1000000 ∧ rng a.2.2.1) ∧ Tree.kind a.2.2.1 ≠ 10 ∧ ∃ d, rightT a.2.2.1 d = true ∧ Tree.kind a.2.2.1 = 9
def mu98 (a : (List Int × Unit) × Int × Tree × Unit) : Nat := 4 * mass a.2.2.1 + 2
noncomputable def res98 (a : (List Int × Unit) × Int × Tree × Unit) : V U := .c (.bool true)
noncomputable def resX98 (a : (List Int × Unit) × Int × Tree × Unit) : List (List (C U)) := [[.mref (.x 0 0)]]
noncomputable def resL98 (a : (List Int × Unit) × Int × Tree × Unit) : List (Tok × LC U) := [(.x 0 0, LC.mk (U := U) .u64 (layP a.1.1 a.2.1 a.2.2.1) 0)]
noncomputable def spec98 : Fs U := fsXL args98 (fun a => [pre98 a]) res98 resX98 resL98

noncomputable def know74 (N : Nat) : List (FuncId × Fs U) := (74, fsXL args74 (fun a => [pre74 a, mu74 a < N]) res74 resX74 resL74) :: (99, fsXL args99 (fun a => [pre99 a, mu99 a < N]) res99 resX99 resL99) :: (97, fsXL args97 (fun a => [pre97 a, mu97 a < N]) res97 resX97 resL97) :: (98, fsXL args98 (fun a => [pre98 a, mu98 a < N]) res98 resX98 resL98) :: [(75, spec75), (96, spec96), (100, spec100), (101, spec1101), (119, spec119), (120, spec120)]
def lv74 : Lives U := fun i => match i with
  | 0 => ([(0, []), (1, []), (5, [])], [((.loc 5), []), ((.x 0), [.wr .u64])])
  | 1 => ([(0, []), (1, []), (5, []), (16, [])], [((.loc 5), []), ((.x 0), [.wr .u64])])
  | 2 => ([(6, [])], [((.x 0), [.wr .u64])])
  | 3 => ([(0, []), (1, []), (5, []), (20, [])], [((.loc 5), []), ((.x 0), [.wr .u64])])
  | 4 => ([(0, []), (1, []), (5, []), (7, [])], [((.loc 5), []), ((.x 0), [.wr .u64])])
  | 5 => ([(6, [])], [((.x 0), [.wr .u64])])
  | 6 => ([(0, []), (1, []), (5, []), (53, [])], [((.loc 5), []), ((.x 0), [.wr .u64])])
  | 7 => ([(6, [])], [((.x 0), [.wr .u64])])
  | 8 => ([(0, []), (1, []), (5, []), (61, [])], [((.loc 5), []), ((.x 0), [.wr .u64])])
  | 9 => ([(0, []), (1, []), (5, []), (8, [])], [((.loc 5), []), ((.x 0), [.wr .u64])])
  | 10 => ([(6, [])], [((.x 0), [.wr .u64])])
  | 11 => ([(0, []), (1, []), (5, []), (9, [])], [((.loc 5), []), ((.x 0), [.wr .u64])])
  | 12 => ([(0, []), (1, []), (5, []), (9, []), (10, [])], [((.loc 5), []), ((.x 0), [.wr .u64])])
  | 13 => ([(0, []), (1, []), (5, []), (9, []), (10, [.own .u64]), (88, []), (89, []), (90, [])], [((.loc 5), []), ((.x 0), [.wr .u64])])
  | 14 => ([(0, []), (1, []), (5, []), (9, []), (10, []), (88, []), (89, []), (90, []), (91, [])], [((.loc 5), []), ((.x 0), [.wr .u64])])
  | 15 => ([(0, []), (1, []), (5, []), (9, []), (10, []), (12, []), (88, []), (89, []), (90, [])], [((.loc 5), []), ((.loc 12), []), ((.x 0), [.wr .u64])])
  | 16 => ([(0, []), (1, []), (5, []), (9, []), (10, []), (88, []), (89, []), (90, [])], [((.loc 5), []), ((.x 0), [.wr .u64])])
  | 17 => ([(0, []), (1, []), (5, []), (9, []), (10, [.own .u64]), (88, []), (89, []), (90, [])], [((.loc 5), []), ((.x 0), [.wr .u64])])
  | 18 => ([(0, []), (1, []), (5, []), (9, []), (13, []), (14, [])], [((.loc 5), []), ((.x 0), [.wr .u64])])
  | 19 => ([(0, []), (1, []), (5, []), (9, []), (13, []), (14, []), (15, [])], [((.loc 5), []), ((.x 0), [.wr .u64])])
  | 20 => ([(0, []), (1, []), (5, []), (9, []), (14, []), (15, [])], [((.loc 5), []), ((.x 0), [.wr .u64])])
  | 21 => ([(6, [])], [((.x 0), [.wr .u64])])
  | _ => ([], [])
noncomputable def head74_0 (l : List Int) (at_ : Int) (t : Tree) (x90 : Int) (x10 : List Int) : LSt U := (⟨[(0, .ptr (.x 0) 0), (1, .c (.int .i64 at_)), (5, .ptr (.loc 5) 0), (9, .c (.int .i64 (((Tree.kind t) : Int) - 2))), (10, .c (.slice (U := U) .u64 x10 (.own (.e 10 0)))), (88, .c (.slice (U := U) .tree (Tree.kids t) .unk)), (89, .c (.int .i64 ((Tree.kids t).length : Int))), (90, .c (.int .i64 x90))], [((.loc 5), [.int .i64 (Tree.kind t), .slice (U := U) .u64 (Tree.words t) .unk, .slice (U := U) .tree (Tree.kids t) .unk]), ((.x 0), [.mref (.x 0 0)])], [(.x 0 0, LC.mk (U := U) .u64 l 0)]⟩ : LSt U)
noncomputable abbrev A74 (N : Nat) (p : List Nat) := awp cfg (know (know74 N)) (drawOk cfg (know (know74 N))) Try.f74.ntmps lv74 (cd Try.f74 p)
noncomputable abbrev S74 (N : Nat) (p : List Nat) := seqK cfg (know (know74 N)) (drawOk cfg (know (know74 N))) Try.f74.ntmps lv74 (cd Try.f74 p)
theorem vc74 (N : Nat) (l : List Int) (at_ : Int) (t : Tree) (Q : AExit → LSt U → Prop) (h : ∀ y_1, y_1 = (t) → ∀ y_2, y_2 = (Int.toNat ((((Tree.words t).length : Int) : Int) + ((Tree.kids t).length : Int))) → ∀ y_3, y_3 = (Ptr.mk 1 0 ((Tree.words t).length : Int) ((Tree.kids t).length : Int) 0 0 0 false) → ∀ y_4, y_4 = (pntW at_ (l.length : Int) (Ptr.mk 2 0 0 0 6 ((Tree.kids t).length : Int) 0 false)) → ((((((Tree.kind t) : Int) == 0) = true → (Q .ret (⟨[(6, .c (.bool true))], [((.x 0), [.mref (.x 0 0)])], [(.x 0 0, LC.mk (U := U) .u64 l 0)]⟩ : LSt U))) ∧ ((((Tree.kind t) : Int) == 0) = false → (((((Tree.kind t) : Int) == 1) = true → (InR ((((Tree.words t).length : Int) : Int) + ((Tree.kids t).length : Int))) ∧ (pre75 ((l, ()), ((((Tree.words t).length : Int) : Int) + ((Tree.kids t).length : Int)), ())) ∧ ((pre96 (((l ++ zs y_2), ()), at_, (l.length : Int), y_3, ())) ∧ (Tr ((true) = true)) ∧ (Tr ((true) = true)) ∧ (Tr ((true) = true)) ∧ (Tr ((true) = true)) ∧ (Tr ((true) = true)) ∧ (Tr ((true) = true)) ∧ (pre97 ((((l ++ zs y_2).set (Int.toNat at_) (pntW at_ (l.length : Int) y_3)), ()), (l.length : Int), ((Tree.words t).length : Int), y_1, ())) ∧ (mu97 ((((l ++ zs y_2).set (Int.toNat at_) (pntW at_ (l.length : Int) y_3)), ()), (l.length : Int), ((Tree.words t).length : Int), y_1, ()) < N) ∧ (Q .ret (⟨[(6, .c (.bool (bif true then true else false)))], [((.x 0), [.mref (.x 0 0)])], [(.x 0 0, LC.mk (U := U) .u64 (strR ((l ++ zs y_2).set (Int.toNat at_) (pntW at_ (l.length : Int) y_3)) (l.length : Int) ((Tree.words t).length : Int) y_1) 0)]⟩ : LSt U)))) ∧ ((((Tree.kind t) : Int) == 1) = false → (((((Tree.kind t) : Int) == 9) = true → (pre98 ((l, ()), at_, y_1, ())) ∧ (mu98 ((l, ()), at_, y_1, ()) < N) ∧ (Q .ret (⟨[(6, .c (.bool true))], [((.x 0), [.mref (.x 0 0)])], [(.x 0 0, LC.mk (U := U) .u64 (layP l at_ y_1) 0)]⟩ : LSt U))) ∧ ((((Tree.kind t) : Int) == 9) = false → (((((Tree.kind t) : Int) == 8) = true → (pre75 ((l, ()), ((Tree.kids t).length : Int), ())) ∧ ((pre96 (((l ++ zs (Int.toNat ((Tree.kids t).length : Int))), ()), at_, (l.length : Int), (Ptr.mk 2 0 0 0 6 ((Tree.kids t).length : Int) 0 false), ())) ∧ (Tr ((true) = true)) ∧ (Tr ((true) = true)) ∧ (Tr ((true) = true)) ∧ (pre99 ((((l ++ zs (Int.toNat ((Tree.kids t).length : Int))).set (Int.toNat at_) y_4), ()), (l.length : Int), y_1, ())) ∧ (mu99 ((((l ++ zs (Int.toNat ((Tree.kids t).length : Int))).set (Int.toNat at_) y_4), ()), (l.length : Int), y_1, ()) < N) ∧ (Q .ret (⟨[(6, .c (.bool (bif true then true else false)))], [((.x 0), [.mref (.x 0 0)])], [(.x 0 0, LC.mk (U := U) .u64 (kidsR ((l ++ zs (Int.toNat ((Tree.kids t).length : Int))).set (Int.toNat at_) y_4) (l.length : Int) y_1) 0)]⟩ : LSt U)))) ∧ ((((Tree.kind t) : Int) == 8) = false → (InR (((Tree.kind t) : Int) - 2)) ∧ (((LoopWp (A74 N [1, 1, 1, 1, 0, 1, 0, 0]) (head74_0 l at_ t 0 ([])) (AExit.inBlock 1 (S74 N [1, 1, 1, 1, 1] Q))))))))))))))) :
    A74 N [] (⟨[(0, .ptr (.x 0) 0), (1, .c (.int .i64 at_)), (2, .agg [.int .i64 (Tree.kind t), .slice (U := U) .u64 (Tree.words t) .unk, .slice (U := U) .tree (Tree.kids t) .unk])], [((.x 0), [.mref (.x 0 0)])], [(.x 0 0, LC.mk (U := U) .u64 l 0)]⟩ : LSt U) Q :=
  (Eq.mpr (by kernel_rfl) (h _ (reTree_eq _) _ rfl _ rfl _ rfl) :)
theorem vc74_l0 (N : Nat) (l : List Int) (at_ : Int) (t : Tree) (x90 : Int) (x10 : List Int) (N0 : LSt U → Prop) (Q : AExit → LSt U → Prop) (h : ∀ y_1, y_1 = (List.getD (Tree.kids t) (Int.toNat x90) Tree.nil) → ∀ y_2, y_2 = (Int.toNat ((putW (((Tree.kind t) : Int) - 2) x10).length : Int)) → ∀ y_3, y_3 = (y_1) → (((decide ((x90 : Int) < ((Tree.kids t).length : Int))) = true → ((0 : Int) ≤ x90 ∧ x90 < ((Tree.kids t).length : Int)) ∧ ((pre100 (y_3, 0, ())) ∧ ((x10.length + ([wordAt y_3 0]).length) * 8 ≤ 140737488355328) ∧ ((InR ((x90 : Int) + 1)) ∧ (N0 (head74_0 l at_ t ((x90 : Int) + 1) (x10 ++ ([wordAt y_3 0]))))))) ∧ ((decide ((x90 : Int) < ((Tree.kids t).length : Int))) = false → (pre1101 ((((Tree.kind t) : Int) - 2), x10, ())) ∧ ((pre75 ((l, ()), ((putW (((Tree.kind t) : Int) - 2) x10).length : Int), ())) ∧ (((0 : Int) ≤ (l.length : Int) ∧ (l.length : Int) ≤ ((l ++ zs y_2).length : Int)) ∧ ((0 : Nat) ≤ (Int.toNat (l.length : Int))) ∧ ((Tr ((true) = true)) ∧ (Tr ((true) = true)) ∧ (Tr ((true) = true)) ∧ (Tr ((true) = true)) ∧ (Tr ((true) = true)) ∧ (Tr ((true) = true)) ∧ (Tr ((true) = true)) ∧ (Tr ((true) = true)) ∧ (pre96 (((cpL (l ++ zs y_2) (Int.toNat (l.length : Int)) (putW (((Tree.kind t) : Int) - 2) x10)), ()), at_, (l.length : Int), (Ptr.mk 2 0 0 0 (((Tree.kind t) : Int) - 2) ((Tree.kids t).length : Int) 0 false), ())) ∧ (Q .ret (⟨[(6, .c (.bool (bif true then true else false)))], [((.x 0), [.mref (.x 0 0)])], [(.x 0 0, LC.mk (U := U) .u64 ((cpL (l ++ zs y_2) (Int.toNat (l.length : Int)) (putW (((Tree.kind t) : Int) - 2) x10)).set (Int.toNat at_) (pntW at_ (l.length : Int) (Ptr.mk 2 0 0 0 (((Tree.kind t) : Int) - 2) ((Tree.kids t).length : Int) 0 false))) 0)]⟩ : LSt U)))))))) :
    A74 N [1, 1, 1, 1, 0, 1, 0, 0] (head74_0 l at_ t x90 x10) (AExit.then N0 (AExit.inBlock 1 (S74 N [1, 1, 1, 1, 1] Q))) :=
  (Eq.mpr (by kernel_rfl) (h _ rfl _ rfl _ (reTree_eq _)) :)
abbrev Body74 (N : Nat) (l : List Int) (at_ : Int) (t : Tree)  : Prop := awp cfg (know (know74 N)) (drawOk cfg (know (know74 N))) Try.f74.ntmps lv74 (cd Try.f74 []) (entryL (args74.can ((l, ()), at_, t, ())) (args74.canX ((l, ()), at_, t, ())) (args74.canL ((l, ()), at_, t, ()))) (EndsQL cfg Try.f74.ntmps Try.f74.results.toList (res74 ((l, ()), at_, t, ())) (resX74 ((l, ()), at_, t, ())) (resL74 ((l, ()), at_, t, ())))
abbrev HB74 : Prop := ∀ (N : Nat) (l : List Int) (at_ : Int) (t : Tree) (_ : Unit), pre74 ((l, ()), at_, t, ()) → mu74 ((l, ()), at_, t, ()) < N + 1 → Body74 N l at_ t

noncomputable def know99 (N : Nat) : List (FuncId × Fs U) := know74 N
def lv99 : Lives U := fun i => match i with
  | 0 => ([(0, []), (1, []), (5, [])], [((.loc 5), []), ((.x 0), [.wr .u64])])
  | 1 => ([(0, []), (1, []), (10, []), (11, []), (12, [])], [((.x 0), [.wr .u64])])
  | 2 => ([(0, []), (1, []), (10, []), (11, []), (12, []), (13, [])], [((.x 0), [.wr .u64])])
  | 3 => ([(0, []), (1, []), (7, []), (8, []), (10, []), (11, []), (12, [])], [((.loc 8), []), ((.x 0), [.wr .u64])])
  | 4 => ([(0, []), (1, []), (10, []), (11, []), (12, []), (23, [])], [((.x 0), [.wr .u64])])
  | 5 => ([(6, [])], [((.x 0), [.wr .u64])])
  | 6 => ([(0, []), (1, []), (10, []), (11, []), (12, [])], [((.x 0), [.wr .u64])])
  | 7 => ([(6, [])], [((.x 0), [.wr .u64])])
  | _ => ([], [])
noncomputable def head99_0 (l : List Int) (at_ : Int) (t : Tree) (x12 : Int) (rx_0_0 : List Int) : LSt U := (⟨[(0, .ptr (.x 0) 0), (1, .c (.int .i64 at_)), (10, .c (.slice (U := U) .tree (Tree.kids t) .unk)), (11, .c (.int .i64 ((Tree.kids t).length : Int))), (12, .c (.int .i64 x12))], [((.x 0), [.mref (.x 0 0)])], [(.x 0 0, LC.mk (U := U) .u64 rx_0_0 0)]⟩ : LSt U)
noncomputable abbrev A99 (N : Nat) (p : List Nat) := awp cfg (know (know99 N)) (drawOk cfg (know (know99 N))) Try.f99.ntmps lv99 (cd Try.f99 p)
noncomputable abbrev S99 (N : Nat) (p : List Nat) := seqK cfg (know (know99 N)) (drawOk cfg (know (know99 N))) Try.f99.ntmps lv99 (cd Try.f99 p)
theorem vc99 (N : Nat) (l : List Int) (at_ : Int) (t : Tree) (Q : AExit → LSt U → Prop) (h : ((LoopWp (A99 N [1, 0, 1, 0, 0]) (head99_0 l at_ t 0 l) (AExit.inBlock 0 (S99 N [1, 1] Q))))) :
    A99 N [] (⟨[(0, .ptr (.x 0) 0), (1, .c (.int .i64 at_)), (2, .agg [.int .i64 (Tree.kind t), .slice (U := U) .u64 (Tree.words t) .unk, .slice (U := U) .tree (Tree.kids t) .unk])], [((.x 0), [.mref (.x 0 0)])], [(.x 0 0, LC.mk (U := U) .u64 l 0)]⟩ : LSt U) Q :=
  (Eq.mpr (by kernel_rfl) h :)
theorem vc99_l0 (N : Nat) (l : List Int) (at_ : Int) (t : Tree) (x12 : Int) (rx_0_0 : List Int) (N0 : LSt U → Prop) (Q : AExit → LSt U → Prop) (h : (((decide ((x12 : Int) < ((Tree.kids t).length : Int))) = true → ((0 : Int) ≤ x12 ∧ x12 < ((Tree.kids t).length : Int)) ∧ ((InR ((at_ : Int) + x12)) ∧ (pre74 ((rx_0_0, ()), ((at_ : Int) + x12), (Tree.mk (Tree.kind (List.getD (Tree.kids t) (Int.toNat x12) Tree.nil)) (Tree.words (List.getD (Tree.kids t) (Int.toNat x12) Tree.nil)) (Tree.kids (List.getD (Tree.kids t) (Int.toNat x12) Tree.nil))), ())) ∧ (mu74 ((rx_0_0, ()), ((at_ : Int) + x12), (Tree.mk (Tree.kind (List.getD (Tree.kids t) (Int.toNat x12) Tree.nil)) (Tree.words (List.getD (Tree.kids t) (Int.toNat x12) Tree.nil)) (Tree.kids (List.getD (Tree.kids t) (Int.toNat x12) Tree.nil))), ()) < N) ∧ (((!true) = true → (Q .ret (⟨[(6, .c (.bool false))], [((.x 0), [.mref (.x 0 0)])], [(.x 0 0, LC.mk (U := U) .u64 (layP rx_0_0 ((at_ : Int) + x12) (Tree.mk (Tree.kind (List.getD (Tree.kids t) (Int.toNat x12) Tree.nil)) (Tree.words (List.getD (Tree.kids t) (Int.toNat x12) Tree.nil)) (Tree.kids (List.getD (Tree.kids t) (Int.toNat x12) Tree.nil)))) 0)]⟩ : LSt U))) ∧ ((!true) = false → (InR ((x12 : Int) + 1)) ∧ (N0 (head99_0 l at_ t ((x12 : Int) + 1) (layP rx_0_0 ((at_ : Int) + x12) (Tree.mk (Tree.kind (List.getD (Tree.kids t) (Int.toNat x12) Tree.nil)) (Tree.words (List.getD (Tree.kids t) (Int.toNat x12) Tree.nil)) (Tree.kids (List.getD (Tree.kids t) (Int.toNat x12) Tree.nil)))))))))) ∧ ((decide ((x12 : Int) < ((Tree.kids t).length : Int))) = false → (Q .ret (⟨[(6, .c (.bool true))], [((.x 0), [.mref (.x 0 0)])], [(.x 0 0, LC.mk (U := U) .u64 rx_0_0 0)]⟩ : LSt U))))) :
    A99 N [1, 0, 1, 0, 0] (head99_0 l at_ t x12 rx_0_0) (AExit.then N0 (AExit.inBlock 0 (S99 N [1, 1] Q))) :=
  (Eq.mpr (by kernel_rfl) h :)
abbrev Body99 (N : Nat) (l : List Int) (at_ : Int) (t : Tree)  : Prop := awp cfg (know (know99 N)) (drawOk cfg (know (know99 N))) Try.f99.ntmps lv99 (cd Try.f99 []) (entryL (args99.can ((l, ()), at_, t, ())) (args99.canX ((l, ()), at_, t, ())) (args99.canL ((l, ()), at_, t, ()))) (EndsQL cfg Try.f99.ntmps Try.f99.results.toList (res99 ((l, ()), at_, t, ())) (resX99 ((l, ()), at_, t, ())) (resL99 ((l, ()), at_, t, ())))
abbrev HB99 : Prop := ∀ (N : Nat) (l : List Int) (at_ : Int) (t : Tree) (_ : Unit), pre99 ((l, ()), at_, t, ()) → mu99 ((l, ()), at_, t, ()) < N + 1 → Body99 N l at_ t

noncomputable def know97 (N : Nat) : List (FuncId × Fs U) := know74 N
def lv97 : Lives U := fun i => match i with
  | 0 => ([(0, []), (1, []), (2, []), (7, [])], [((.loc 7), []), ((.x 0), [.wr .u64])])
  | 1 => ([(0, []), (1, []), (2, []), (7, [])], [((.loc 7), []), ((.x 0), [.wr .u64])])
  | 2 => ([(8, [])], [((.x 0), [.wr .u64])])
  | _ => ([], [])
noncomputable abbrev A97 (N : Nat) (p : List Nat) := awp cfg (know (know97 N)) (drawOk cfg (know (know97 N))) Try.f97.ntmps lv97 (cd Try.f97 p)
theorem vc97 (N : Nat) (l : List Int) (at_ : Int) (n : Int) (t : Tree) (Q : AExit → LSt U → Prop) (h : (((0 : Int) ≤ at_ ∧ at_ ≤ (l.length : Int)) ∧ ((0 : Nat) ≤ (Int.toNat at_)) ∧ ((InR ((at_ : Int) + n)) ∧ (pre99 (((cpL l (Int.toNat at_) (Tree.words t)), ()), ((at_ : Int) + n), (Tree.mk (Tree.kind t) (Tree.words t) (Tree.kids t)), ())) ∧ (mu99 (((cpL l (Int.toNat at_) (Tree.words t)), ()), ((at_ : Int) + n), (Tree.mk (Tree.kind t) (Tree.words t) (Tree.kids t)), ()) < N) ∧ (Q .ret (⟨[(8, .c (.bool true))], [((.x 0), [.mref (.x 0 0)])], [(.x 0 0, LC.mk (U := U) .u64 (kidsR (cpL l (Int.toNat at_) (Tree.words t)) ((at_ : Int) + n) (Tree.mk (Tree.kind t) (Tree.words t) (Tree.kids t))) 0)]⟩ : LSt U))))) :
    A97 N [] (⟨[(0, .ptr (.x 0) 0), (1, .c (.int .i64 at_)), (2, .c (.int .i64 n)), (3, .agg [.int .i64 (Tree.kind t), .slice (U := U) .u64 (Tree.words t) .unk, .slice (U := U) .tree (Tree.kids t) .unk])], [((.x 0), [.mref (.x 0 0)])], [(.x 0 0, LC.mk (U := U) .u64 l 0)]⟩ : LSt U) Q :=
  (Eq.mpr (by kernel_rfl) h :)
abbrev Body97 (N : Nat) (l : List Int) (at_ : Int) (n : Int) (t : Tree)  : Prop := awp cfg (know (know97 N)) (drawOk cfg (know (know97 N))) Try.f97.ntmps lv97 (cd Try.f97 []) (entryL (args97.can ((l, ()), at_, n, t, ())) (args97.canX ((l, ()), at_, n, t, ())) (args97.canL ((l, ()), at_, n, t, ()))) (EndsQL cfg Try.f97.ntmps Try.f97.results.toList (res97 ((l, ()), at_, n, t, ())) (resX97 ((l, ()), at_, n, t, ())) (resL97 ((l, ()), at_, n, t, ())))
abbrev HB97 : Prop := ∀ (N : Nat) (l : List Int) (at_ : Int) (n : Int) (t : Tree) (_ : Unit), pre97 ((l, ()), at_, n, t, ()) → mu97 ((l, ()), at_, n, t, ()) < N + 1 → Body97 N l at_ n t

noncomputable def know98 (N : Nat) : List (FuncId × Fs U) := know74 N
def lv98 : Lives U := fun i => match i with
  | 0 => ([(0, []), (1, []), (5, [])], [((.loc 5), []), ((.x 0), [.wr .u64])])
  | 1 => ([(0, []), (1, []), (5, []), (7, []), (8, [])], [((.loc 5), []), ((.x 0), [.wr .u64])])
  | 2 => ([(0, []), (1, []), (5, []), (7, []), (8, []), (9, [])], [((.loc 5), []), ((.x 0), [.wr .u64])])
  | 3 => ([(0, []), (1, []), (5, []), (7, []), (9, []), (10, []), (11, [])], [((.loc 5), []), ((.x 0), [.wr .u64])])
  | 4 => ([(0, []), (1, []), (5, []), (7, []), (9, []), (10, []), (11, []), (34, [])], [((.loc 5), []), ((.x 0), [.wr .u64])])
  | 5 => ([(0, []), (1, []), (5, []), (7, []), (9, []), (10, []), (11, [])], [((.loc 5), []), ((.x 0), [.wr .u64])])
  | 6 => ([(0, []), (1, []), (5, []), (7, []), (9, []), (10, []), (11, []), (12, [])], [((.loc 5), []), ((.x 0), [.wr .u64])])
  | 7 => ([(0, []), (1, []), (5, []), (7, []), (9, []), (11, []), (12, [])], [((.loc 5), []), ((.x 0), [.wr .u64])])
  | 8 => ([(0, []), (5, []), (7, []), (9, []), (11, []), (12, []), (60, [])], [((.loc 5), []), ((.x 0), [.wr .u64])])
  | 9 => ([(6, [])], [((.x 0), [.wr .u64])])
  | 10 => ([(0, []), (5, []), (7, []), (9, []), (11, []), (12, []), (62, []), (63, []), (64, [])], [((.loc 5), []), ((.x 0), [.wr .u64])])
  | 11 => ([(0, []), (5, []), (7, []), (9, []), (11, []), (12, []), (62, []), (63, []), (64, []), (65, [])], [((.loc 5), []), ((.x 0), [.wr .u64])])
  | 12 => ([(0, []), (5, []), (7, []), (9, []), (11, []), (12, []), (13, []), (14, []), (62, []), (63, []), (64, [])], [((.loc 5), []), ((.loc 14), []), ((.x 0), [.wr .u64])])
  | 13 => ([(0, []), (5, []), (7, []), (9, []), (11, []), (12, []), (62, []), (63, []), (64, []), (79, [])], [((.loc 5), []), ((.x 0), [.wr .u64])])
  | 14 => ([(6, [])], [((.x 0), [.wr .u64])])
  | 15 => ([(0, []), (5, []), (7, []), (9, []), (11, []), (12, []), (62, []), (63, []), (64, [])], [((.loc 5), []), ((.x 0), [.wr .u64])])
  | 16 => ([(6, [])], [((.x 0), [.wr .u64])])
  | _ => ([], [])
noncomputable def head98_0 (l : List Int) (at_ : Int) (t : Tree) (rx_0_0 : List Int) (x64 : Int) : LSt U := (⟨[(0, .ptr (.x 0) 0), (5, .ptr (.loc 5) 0), (7, .c (.int .i64 (frW (Tree.kids (Tree.mk (Tree.kind t) (Tree.words t) (Tree.kids t))) : Int))), (9, .c (.int .i64 (((frW (Tree.kids (Tree.mk (Tree.kind t) (Tree.words t) (Tree.kids t))) : Int) : Int) + (frK (Tree.kids (Tree.mk (Tree.kind t) (Tree.words t) (Tree.kids t))) : Int)))), (11, .c (.bool (eqP (decP (encW (Ptr.mk 1 ((Tree.kids t).length : Int) (frW (Tree.kids (Tree.mk (Tree.kind t) (Tree.words t) (Tree.kids t))) : Int) (frK (Tree.kids (Tree.mk (Tree.kind t) (Tree.words t) (Tree.kids t))) : Int) 0 0 0 false))) (Ptr.mk 1 ((Tree.kids t).length : Int) (frW (Tree.kids (Tree.mk (Tree.kind t) (Tree.words t) (Tree.kids t))) : Int) (frK (Tree.kids (Tree.mk (Tree.kind t) (Tree.words t) (Tree.kids t))) : Int) 0 0 0 false) && !decide (Ptr.kind (Ptr.mk 1 ((Tree.kids t).length : Int) (frW (Tree.kids (Tree.mk (Tree.kind t) (Tree.words t) (Tree.kids t))) : Int) (frK (Tree.kids (Tree.mk (Tree.kind t) (Tree.words t) (Tree.kids t))) : Int) 0 0 0 false) = 4)))), (12, .c (.int .i64 (l.length : Int))), (62, .c (.slice (U := U) .tree (Tree.kids t) .unk)), (63, .c (.int .i64 ((Tree.kids t).length : Int))), (64, .c (.int .i64 x64))], [((.loc 5), [.int .i64 (Tree.kind t), .slice (U := U) .u64 (Tree.words t) .unk, .slice (U := U) .tree (Tree.kids t) .unk]), ((.x 0), [.mref (.x 0 0)])], [(.x 0 0, LC.mk (U := U) .u64 rx_0_0 0)]⟩ : LSt U)
noncomputable abbrev A98 (N : Nat) (p : List Nat) := awp cfg (know (know98 N)) (drawOk cfg (know (know98 N))) Try.f98.ntmps lv98 (cd Try.f98 p)
noncomputable abbrev S98 (N : Nat) (p : List Nat) := seqK cfg (know (know98 N)) (drawOk cfg (know (know98 N))) Try.f98.ntmps lv98 (cd Try.f98 p)
theorem vc98 (N : Nat) (l : List Int) (at_ : Int) (t : Tree) (Q : AExit → LSt U → Prop) (h : ∀ y_1, y_1 = (t) → ∀ y_2, y_2 = (Ptr.mk 1 ((Tree.kids t).length : Int) (frW (Tree.kids y_1) : Int) (frK (Tree.kids y_1) : Int) 0 0 0 false) → ∀ y_3, y_3 = (InR ((((Tree.kids t).length : Int) : Int) * (((frW (Tree.kids y_1) : Int) : Int) + (frK (Tree.kids y_1) : Int)))) → ∀ y_4, y_4 = (Int.toNat ((1 : Int) + ((((Tree.kids t).length : Int) : Int) * (((frW (Tree.kids y_1) : Int) : Int) + (frK (Tree.kids y_1) : Int))))) → ∀ y_5, y_5 = (Ptr.mk 2 0 0 0 7 ((((Tree.kids t).length : Int) : Int) * (((frW (Tree.kids y_1) : Int) : Int) + (frK (Tree.kids y_1) : Int))) 0 false) → ∀ y_6, y_6 = (List.set (l ++ zs y_4) (Int.toNat (l.length : Int)) (encW y_2)) → ((pre119 (y_1, ())) ∧ ((InR (((frW (Tree.kids y_1) : Int) : Int) + (frK (Tree.kids y_1) : Int))) ∧ ((pre120 (y_2, ())) ∧ ((((!(eqP (decP (encW y_2)) y_2 && !decide (Ptr.kind y_2 = 4))) = true → (y_3 ∧ (InR ((1 : Int) + ((((Tree.kids t).length : Int) : Int) * (((frW (Tree.kids y_1) : Int) : Int) + (frK (Tree.kids y_1) : Int))))) ∧ (pre75 ((l, ()), ((1 : Int) + ((((Tree.kids t).length : Int) : Int) * (((frW (Tree.kids y_1) : Int) : Int) + (frK (Tree.kids y_1) : Int)))), ())) ∧ (((0 : Int) ≤ (l.length : Int) ∧ (l.length : Int) < ((l ++ zs y_4).length : Int)) ∧ ((0 : Nat) ≤ (Int.toNat (l.length : Int))) ∧ (y_3 ∧ (pre96 (((List.set (l ++ zs y_4) (Int.toNat (l.length : Int)) 0), ()), at_, (l.length : Int), y_5, ())) ∧ (((!true) = true → (Q .ret (⟨[(6, .c (.bool false))], [((.x 0), [.mref (.x 0 0)])], [(.x 0 0, LC.mk (U := U) .u64 ((List.set (l ++ zs y_4) (Int.toNat (l.length : Int)) 0).set (Int.toNat at_) (pntW at_ (l.length : Int) y_5)) 0)]⟩ : LSt U))) ∧ ((!true) = false → (LoopWp (A98 N [1, 1, 1, 1, 1, 1, 1, 1, 0, 1, 0, 0]) (head98_0 l at_ t ((List.set (l ++ zs y_4) (Int.toNat (l.length : Int)) 0).set (Int.toNat at_) (pntW at_ (l.length : Int) y_5)) 0) (AExit.inBlock 0 (S98 N [1, 1, 1, 1, 1, 1, 1, 1, 1] Q))))))))) ∧ ((!(eqP (decP (encW y_2)) y_2 && !decide (Ptr.kind y_2 = 4))) = false → y_3 ∧ (InR ((1 : Int) + ((((Tree.kids t).length : Int) : Int) * (((frW (Tree.kids y_1) : Int) : Int) + (frK (Tree.kids y_1) : Int))))) ∧ (pre75 ((l, ()), ((1 : Int) + ((((Tree.kids t).length : Int) : Int) * (((frW (Tree.kids y_1) : Int) : Int) + (frK (Tree.kids y_1) : Int)))), ())) ∧ (((0 : Int) ≤ (l.length : Int) ∧ (l.length : Int) < ((l ++ zs y_4).length : Int)) ∧ ((0 : Nat) ≤ (Int.toNat (l.length : Int))) ∧ (y_3 ∧ (pre96 ((y_6, ()), at_, (l.length : Int), y_5, ())) ∧ (((!true) = true → (Q .ret (⟨[(6, .c (.bool false))], [((.x 0), [.mref (.x 0 0)])], [(.x 0 0, LC.mk (U := U) .u64 (y_6.set (Int.toNat at_) (pntW at_ (l.length : Int) y_5)) 0)]⟩ : LSt U))) ∧ ((!true) = false → (LoopWp (A98 N [1, 1, 1, 1, 1, 1, 1, 1, 0, 1, 0, 0]) (head98_0 l at_ t (y_6.set (Int.toNat at_) (pntW at_ (l.length : Int) y_5)) 0) (AExit.inBlock 0 (S98 N [1, 1, 1, 1, 1, 1, 1, 1, 1] Q)))))))))))))) :
    A98 N [] (⟨[(0, .ptr (.x 0) 0), (1, .c (.int .i64 at_)), (2, .agg [.int .i64 (Tree.kind t), .slice (U := U) .u64 (Tree.words t) .unk, .slice (U := U) .tree (Tree.kids t) .unk])], [((.x 0), [.mref (.x 0 0)])], [(.x 0 0, LC.mk (U := U) .u64 l 0)]⟩ : LSt U) Q :=
  (Eq.mpr (by kernel_rfl) (h _ (reTree_eq _) _ rfl _ rfl _ rfl _ rfl _ rfl) :)
theorem vc98_l0 (N : Nat) (l : List Int) (at_ : Int) (t : Tree) (rx_0_0 : List Int) (x64 : Int) (N0 : LSt U → Prop) (Q : AExit → LSt U → Prop) (h : ∀ y_1, y_1 = (t) → ∀ y_2, y_2 = (List.getD (Tree.kids t) (Int.toNat x64) Tree.nil) → ∀ y_3, y_3 = (y_2) → ∀ y_4, y_4 = (Ptr.mk 1 ((Tree.kids t).length : Int) (frW (Tree.kids y_1) : Int) (frK (Tree.kids y_1) : Int) 0 0 0 false) → (((decide ((x64 : Int) < ((Tree.kids t).length : Int))) = true → ((0 : Int) ≤ x64 ∧ x64 < ((Tree.kids t).length : Int)) ∧ ((InR (((l.length : Int) : Int) + 1)) ∧ (InR ((x64 : Int) * (((frW (Tree.kids y_1) : Int) : Int) + (frK (Tree.kids y_1) : Int)))) ∧ (InR (((((l.length : Int) : Int) + 1) : Int) + ((x64 : Int) * (((frW (Tree.kids y_1) : Int) : Int) + (frK (Tree.kids y_1) : Int))))) ∧ (pre97 ((rx_0_0, ()), (((((l.length : Int) : Int) + 1) : Int) + ((x64 : Int) * (((frW (Tree.kids y_1) : Int) : Int) + (frK (Tree.kids y_1) : Int)))), (frW (Tree.kids y_1) : Int), y_3, ())) ∧ (mu97 ((rx_0_0, ()), (((((l.length : Int) : Int) + 1) : Int) + ((x64 : Int) * (((frW (Tree.kids y_1) : Int) : Int) + (frK (Tree.kids y_1) : Int)))), (frW (Tree.kids y_1) : Int), y_3, ()) < N) ∧ (((!true) = true → (Q .ret (⟨[(6, .c (.bool false))], [((.x 0), [.mref (.x 0 0)])], [(.x 0 0, LC.mk (U := U) .u64 (strR rx_0_0 (((((l.length : Int) : Int) + 1) : Int) + ((x64 : Int) * (((frW (Tree.kids y_1) : Int) : Int) + (frK (Tree.kids y_1) : Int)))) (frW (Tree.kids y_1) : Int) y_3) 0)]⟩ : LSt U))) ∧ ((!true) = false → (InR ((x64 : Int) + 1)) ∧ (N0 (head98_0 l at_ t (strR rx_0_0 (((((l.length : Int) : Int) + 1) : Int) + ((x64 : Int) * (((frW (Tree.kids y_1) : Int) : Int) + (frK (Tree.kids y_1) : Int)))) (frW (Tree.kids y_1) : Int) y_3) ((x64 : Int) + 1))))))) ∧ ((decide ((x64 : Int) < ((Tree.kids t).length : Int))) = false → (Tr ((!(eqP (decP (encW y_4)) y_4 && !decide (Ptr.kind y_4 = 4))) = true)) ∧ (Tr ((!(eqP (decP (encW y_4)) y_4 && !decide (Ptr.kind y_4 = 4))) = true)) ∧ (Tr ((!(eqP (decP (encW y_4)) y_4 && !decide (Ptr.kind y_4 = 4))) = true)) ∧ (Tr ((!(eqP (decP (encW y_4)) y_4 && !decide (Ptr.kind y_4 = 4))) = true)) ∧ ((!(eqP (decP (encW y_4)) y_4 && !decide (Ptr.kind y_4 = 4))) = true → InR ((((Tree.kids t).length : Int) : Int) + (((frW (Tree.kids y_1) : Int) : Int) + (frK (Tree.kids y_1) : Int)))) ∧ (Tr ((!(eqP (decP (encW y_4)) y_4 && !decide (Ptr.kind y_4 = 4))) = true)) ∧ (((eqP (decP (encW y_4)) y_4 && !decide (Ptr.kind y_4 = 4)) = false → (!(eqP (decP (encW y_4)) y_4 && !decide (Ptr.kind y_4 = 4))) = true)) ∧ (Q .ret (⟨[(6, .c (.bool (bif (eqP (decP (encW y_4)) y_4 && !decide (Ptr.kind y_4 = 4)) then true else ((((((Tree.kids t).length : Int) : Int) + (((frW (Tree.kids y_1) : Int) : Int) + (frK (Tree.kids y_1) : Int))) : Int) == 0))))], [((.x 0), [.mref (.x 0 0)])], [(.x 0 0, LC.mk (U := U) .u64 rx_0_0 0)]⟩ : LSt U))))) :
    A98 N [1, 1, 1, 1, 1, 1, 1, 1, 0, 1, 0, 0] (head98_0 l at_ t rx_0_0 x64) (AExit.then N0 (AExit.inBlock 0 (S98 N [1, 1, 1, 1, 1, 1, 1, 1, 1] Q))) :=
  (Eq.mpr (by kernel_rfl) (h _ (reTree_eq _) _ rfl _ (reTree_eq _) _ rfl) :)
abbrev Body98 (N : Nat) (l : List Int) (at_ : Int) (t : Tree)  : Prop := awp cfg (know (know98 N)) (drawOk cfg (know (know98 N))) Try.f98.ntmps lv98 (cd Try.f98 []) (entryL (args98.can ((l, ()), at_, t, ())) (args98.canX ((l, ()), at_, t, ())) (args98.canL ((l, ()), at_, t, ()))) (EndsQL cfg Try.f98.ntmps Try.f98.results.toList (res98 ((l, ()), at_, t, ())) (resX98 ((l, ()), at_, t, ())) (resL98 ((l, ()), at_, t, ())))
abbrev HB98 : Prop := ∀ (N : Nat) (l : List Int) (at_ : Int) (t : Tree) (_ : Unit), pre98 ((l, ()), at_, t, ()) → mu98 ((l, ()), at_, t, ()) < N + 1 → Body98 N l at_ t

theorem make74_ (c75 : Contract Try.prog cfg 75 spec75) (c96 : Contract Try.prog cfg 96 spec96) (c100 : Contract Try.prog cfg 100 spec100) (c1101 : Contract Try.prog cfg 101 spec1101) (c119 : Contract Try.prog cfg 119 spec119) (c120 : Contract Try.prog cfg 120 spec120) (b74 : HB74) (b99 : HB99) (b97 : HB97) (b98 : HB98) :
    Contract Try.prog cfg 74 spec74 ∧ Contract Try.prog cfg 99 spec99 ∧ Contract Try.prog cfg 97 spec97 ∧ Contract Try.prog cfg 98 spec98 := by
  have h74 : ∃ fn, Try.prog.funcs[(74 : FuncId)]? = some fn ∧ fn.body.isSome = true ∧ (fn.name == "runtime.NumGoroutine") = false := ⟨Try.f74, Try.func74, rfl, rfl⟩
  have h99 : ∃ fn, Try.prog.funcs[(99 : FuncId)]? = some fn ∧ fn.body.isSome = true ∧ (fn.name == "runtime.NumGoroutine") = false := ⟨Try.f99, Try.func99, rfl, rfl⟩
  have h97 : ∃ fn, Try.prog.funcs[(97 : FuncId)]? = some fn ∧ fn.body.isSome = true ∧ (fn.name == "runtime.NumGoroutine") = false := ⟨Try.f97, Try.func97, rfl, rfl⟩
  have h98 : ∃ fn, Try.prog.funcs[(98 : FuncId)]? = some fn ∧ fn.body.isSome = true ∧ (fn.name == "runtime.NumGoroutine") = false := ⟨Try.f98, Try.func98, rfl, rfl⟩
  have key : ∀ N, Contract Try.prog cfg 74 (fsXL args74 (fun a => [pre74 a, mu74 a < N]) res74 resX74 resL74) ∧ Contract Try.prog cfg 99 (fsXL args99 (fun a => [pre99 a, mu99 a < N]) res99 resX99 resL99) ∧ Contract Try.prog cfg 97 (fsXL args97 (fun a => [pre97 a, mu97 a < N]) res97 resX97 resL97) ∧ Contract Try.prog cfg 98 (fsXL args98 (fun a => [pre98 a, mu98 a < N]) res98 resX98 resL98) := by
    intro N
    induction N with
    | zero => exact ⟨fsXL_zero h74, fsXL_zero h99, fsXL_zero h97, fsXL_zero h98⟩
    | succ N ih =>
      have kn := know_ok (l := know74 N) ⟨ih.1, ih.2.1, ih.2.2.1, ih.2.2.2, c75, c96, c100, c1101, c119, c120, trivial⟩
      exact ⟨contract_fsXL (Γ := know (know74 N)) cfgOk rfl kn lv74 Try.func74 rfl rfl (fun a => by show 3 ≤ _; decide) (fun ⟨⟨l, _⟩, at_, t, _⟩ h => b74 N l at_ t () h.1 h.2.1),
        contract_fsXL (Γ := know (know74 N)) cfgOk rfl kn lv99 Try.func99 rfl rfl (fun a => by show 3 ≤ _; decide) (fun ⟨⟨l, _⟩, at_, t, _⟩ h => b99 N l at_ t () h.1 h.2.1),
        contract_fsXL (Γ := know (know74 N)) cfgOk rfl kn lv97 Try.func97 rfl rfl (fun a => by show 4 ≤ _; decide) (fun ⟨⟨l, _⟩, at_, n, t, _⟩ h => b97 N l at_ n t () h.1 h.2.1),
        contract_fsXL (Γ := know (know74 N)) cfgOk rfl kn lv98 Try.func98 rfl rfl (fun a => by show 3 ≤ _; decide) (fun ⟨⟨l, _⟩, at_, t, _⟩ h => b98 N l at_ t () h.1 h.2.1)⟩
  exact ⟨fsXL_less fun N => (key N).1, fsXL_less fun N => (key N).2.1, fsXL_less fun N => (key N).2.2.1, fsXL_less fun N => (key N).2.2.2⟩
end Go.AM.Ythokdjgpdonhgaa

namespace Go.AM.Ythokdjgpdonhgaa
open Go.AM Go.Proofs

def args76 : ArgM (List Int × Int × Tree × Unit) := (.lst (cWt .u64 (.e 0 0)) (.cons (aInt .i64) (.cons (aEl .tree) .nil)))
def pre76 (a : List Int × Int × Tree × Unit) : Prop := (0 ≤ a.2.1 ∧ a.2.1 < a.1.length ∧ a.1.length + sizeN a.2.2.1 ≤ 1000000) ∧ (mass a.2.2.1 ≤ 1000000 ∧ rng a.2.2.1) ∧ Tree.kind a.2.2.1 ≠ 10 ∧ ∃ d, rightT a.2.2.1 d = true
def mu76 (a : List Int × Int × Tree × Unit) : Nat := mass a.2.2.1
noncomputable def res76 (a : List Int × Int × Tree × Unit) : V U := .c (.mref (.r 0 0))
noncomputable def resX76 (a : List Int × Int × Tree × Unit) : List (List (C U)) := []
noncomputable def resL76 (a : List Int × Int × Tree × Unit) : List (Tok × LC U) := [(.r 0 0, LC.mk (U := U) .u64 (layP a.1 a.2.1 a.2.2.1) 0)]
noncomputable def spec76 : Fs U := (fsXL args76 (fun a => [pre76 a]) res76 resX76 resL76).passing [0]

def args36 : ArgL (Tree × Int × Unit) := (.cons (aEl .tree) (.cons (aInt .i64) .nil))
def pre36 (a : Tree × Int × Unit) : Prop := mass a.1 ≤ 1000000 ∧ rng a.1
noncomputable def res36 (a : Tree × Int × Unit) : V U := .tup [(false, [.slice (U := U) .u64 ((encP a.1 a.2.1).1) .unk]), (false, [.bool ((encP a.1 a.2.1).2)])]
noncomputable def spec36 : Fs U := fs args36 (fun a => [pre36 a]) res36

noncomputable def know76 (N : Nat) : List (FuncId × Fs U) := (76, (fsXL args76 (fun a => [pre76 a, mu76 a < N]) res76 resX76 resL76).passing [0]) :: [(102, spec102), (103, spec103), (104, spec104), (82, spec82), (18, spec18)]
def lv76 : Lives U := fun i => match i with
  | 0 => ([(0, [.wr .u64]), (1, []), (5, [])], [((.loc 5), [])])
  | 1 => ([(0, [.wr .u64]), (1, []), (5, []), (7, [])], [((.loc 5), [])])
  | 2 => ([(0, [.wr .u64]), (1, []), (5, []), (7, []), (21, [])], [((.loc 5), [])])
  | 3 => ([(0, [.wr .u64]), (1, []), (5, []), (7, []), (21, []), (22, [])], [((.loc 5), [])])
  | 4 => ([(6, [.wr .u64])], [])
  | 5 => ([(0, [.wr .u64]), (1, []), (5, []), (7, []), (21, []), (25, [])], [((.loc 5), [])])
  | 6 => ([(0, [.wr .u64]), (1, []), (5, []), (7, []), (34, [])], [((.loc 5), [])])
  | 7 => ([(0, [.wr .u64]), (1, []), (5, []), (7, [])], [((.loc 5), [])])
  | 8 => ([(0, [.wr .u64]), (5, []), (7, [])], [((.loc 5), [])])
  | 9 => ([(0, [.wr .u64]), (5, []), (7, [])], [((.loc 5), [])])
  | 10 => ([(0, [.wr .u64]), (5, []), (7, [])], [((.loc 5), [])])
  | 11 => ([(0, [.wr .u64]), (5, []), (7, []), (8, [])], [((.loc 5), [])])
  | 12 => ([(0, [.wr .u64]), (5, []), (7, []), (8, []), (65, [])], [((.loc 5), [])])
  | 13 => ([(0, [.wr .u64]), (5, []), (7, []), (8, [])], [((.loc 5), [])])
  | 14 => ([(0, [.wr .u64]), (5, []), (7, []), (8, [])], [((.loc 5), [])])
  | 15 => ([(6, [.wr .u64])], [])
  | 16 => ([(0, [.wr .u64]), (1, []), (5, []), (7, []), (21, []), (83, [])], [((.loc 5), [])])
  | 17 => ([(0, [.wr .u64]), (5, []), (7, [])], [((.loc 5), [])])
  | 18 => ([(0, [.wr .u64]), (5, []), (7, [])], [((.loc 5), [])])
  | 19 => ([(0, [.wr .u64]), (5, []), (7, []), (9, [])], [((.loc 5), [])])
  | 20 => ([(0, [.wr .u64]), (5, []), (7, []), (9, []), (106, [])], [((.loc 5), [])])
  | 21 => ([(0, [.wr .u64]), (5, []), (7, []), (9, [])], [((.loc 5), [])])
  | 22 => ([(0, [.wr .u64]), (5, []), (7, []), (9, [])], [((.loc 5), [])])
  | 23 => ([(6, [.wr .u64])], [])
  | 24 => ([(0, [.wr .u64]), (1, []), (5, []), (7, []), (120, [])], [((.loc 5), [])])
  | 25 => ([(0, [.wr .u64]), (1, []), (5, []), (7, []), (10, []), (11, [])], [((.loc 5), [])])
  | 26 => ([(0, [.wr .u64]), (1, []), (5, []), (7, []), (10, []), (11, []), (12, [])], [((.loc 5), [])])
  | 27 => ([(0, [.wr .u64]), (5, []), (7, []), (10, []), (11, []), (12, [])], [((.loc 5), [])])
  | 28 => ([(0, [.wr .u64]), (5, []), (7, []), (10, []), (11, []), (12, [])], [((.loc 5), [])])
  | 29 => ([(0, [.wr .u64]), (5, []), (7, []), (10, []), (11, []), (12, []), (13, [])], [((.loc 5), [])])
  | 30 => ([(0, [.wr .u64]), (5, []), (7, []), (10, []), (11, []), (12, []), (13, []), (160, [])], [((.loc 5), [])])
  | 31 => ([(0, [.wr .u64]), (5, []), (7, []), (10, []), (11, []), (12, []), (13, [])], [((.loc 5), [])])
  | 32 => ([(0, [.wr .u64]), (5, []), (7, []), (10, []), (11, []), (12, []), (13, [])], [((.loc 5), [])])
  | 33 => ([(0, [.wr .u64]), (5, []), (7, []), (10, []), (11, []), (12, []), (13, [])], [((.loc 5), [])])
  | 34 => ([(0, [.wr .u64]), (5, []), (7, []), (10, []), (11, []), (12, []), (14, [])], [((.loc 5), [])])
  | 35 => ([(0, [.wr .u64]), (5, []), (7, []), (10, []), (11, []), (12, []), (14, []), (186, [])], [((.loc 5), [])])
  | 36 => ([(0, [.wr .u64]), (5, []), (7, []), (10, []), (11, []), (12, []), (14, [])], [((.loc 5), [])])
  | 37 => ([(0, [.wr .u64]), (5, []), (7, []), (10, []), (11, []), (12, []), (14, []), (15, [])], [((.loc 5), [])])
  | 38 => ([(0, [.wr .u64]), (5, []), (7, []), (10, []), (11, []), (12, []), (14, []), (15, []), (197, [])], [((.loc 5), [])])
  | 39 => ([(0, [.wr .u64]), (5, []), (7, []), (10, []), (11, []), (12, []), (14, []), (15, [])], [((.loc 5), [])])
  | 40 => ([(0, [.wr .u64]), (5, []), (7, []), (10, []), (11, []), (12, []), (14, []), (15, [])], [((.loc 5), [])])
  | 41 => ([(6, [.wr .u64])], [])
  | 42 => ([(0, [.wr .u64]), (1, []), (5, []), (7, []), (16, [])], [((.loc 5), [])])
  | 43 => ([(0, [.wr .u64]), (16, [])], [])
  | 44 => ([(6, [.wr .u64])], [])
  | _ => ([], [])
noncomputable def head76_0 (l : List Int) (at_ : Int) (t : Tree) (x7 : Int) (re_0_0 : List Int) (x8 : Int) : LSt U := (⟨[(0, .c (.mref (.e 0 0))), (5, .ptr (.loc 5) 0), (7, .c (.int .i64 x7)), (8, .c (.int .i64 x8))], [((.loc 5), [.int .i64 (Tree.kind t), .slice (U := U) .u64 (Tree.words t) .unk, .slice (U := U) .tree (Tree.kids t) .unk])], [(.e 0 0, LC.mk (U := U) .u64 re_0_0 0)]⟩ : LSt U)
noncomputable def head76_1 (l : List Int) (at_ : Int) (t : Tree) (x9_a : Int) (re_0_0_a : List Int) : LSt U := (⟨[(0, .c (.mref (.e 0 0))), (5, .ptr (.loc 5) 0), (7, .c (.int .i64 (l.length : Int))), (9, .c (.int .i64 x9_a))], [((.loc 5), [.int .i64 (Tree.kind t), .slice (U := U) .u64 (Tree.words t) .unk, .slice (U := U) .tree (Tree.kids t) .unk])], [(.e 0 0, LC.mk (U := U) .u64 re_0_0_a 0)]⟩ : LSt U)
noncomputable def head76_2 (l : List Int) (at_ : Int) (t : Tree) (x13_b : Int) (re_0_0_b : List Int) : LSt U := (⟨[(0, .c (.mref (.e 0 0))), (5, .ptr (.loc 5) 0), (7, .c (.int .i64 (l.length : Int))), (10, .c (.int .i64 (frW (Tree.kids (Tree.mk (Tree.kind t) (Tree.words t) (Tree.kids t))) : Int))), (11, .c (.int .i64 (frK (Tree.kids (Tree.mk (Tree.kind t) (Tree.words t) (Tree.kids t))) : Int))), (12, .c (.int .i64 ((Tree.kids t).length : Int))), (13, .c (.int .i64 x13_b))], [((.loc 5), [.int .i64 (Tree.kind t), .slice (U := U) .u64 (Tree.words t) .unk, .slice (U := U) .tree (Tree.kids t) .unk])], [(.e 0 0, LC.mk (U := U) .u64 re_0_0_b 0)]⟩ : LSt U)
noncomputable def head76_3 (l : List Int) (at_ : Int) (t : Tree) (x14_c : Int) (re_0_0_c : List Int) : LSt U := (⟨[(0, .c (.mref (.e 0 0))), (5, .ptr (.loc 5) 0), (7, .c (.int .i64 (l.length : Int))), (10, .c (.int .i64 (frW (Tree.kids (Tree.mk (Tree.kind t) (Tree.words t) (Tree.kids t))) : Int))), (11, .c (.int .i64 (frK (Tree.kids (Tree.mk (Tree.kind t) (Tree.words t) (Tree.kids t))) : Int))), (12, .c (.int .i64 ((Tree.kids t).length : Int))), (14, .c (.int .i64 x14_c))], [((.loc 5), [.int .i64 (Tree.kind t), .slice (U := U) .u64 (Tree.words t) .unk, .slice (U := U) .tree (Tree.kids t) .unk])], [(.e 0 0, LC.mk (U := U) .u64 re_0_0_c 0)]⟩ : LSt U)
noncomputable def head76_4 (l : List Int) (at_ : Int) (t : Tree) (x14_c : Int) (x15_d : Int) (re_0_0_d : List Int) : LSt U := (⟨[(0, .c (.mref (.e 0 0))), (5, .ptr (.loc 5) 0), (7, .c (.int .i64 (l.length : Int))), (10, .c (.int .i64 (frW (Tree.kids (Tree.mk (Tree.kind t) (Tree.words t) (Tree.kids t))) : Int))), (11, .c (.int .i64 (frK (Tree.kids (Tree.mk (Tree.kind t) (Tree.words t) (Tree.kids t))) : Int))), (12, .c (.int .i64 ((Tree.kids t).length : Int))), (14, .c (.int .i64 x14_c)), (15, .c (.int .i64 x15_d))], [((.loc 5), [.int .i64 (Tree.kind t), .slice (U := U) .u64 (Tree.words t) .unk, .slice (U := U) .tree (Tree.kids t) .unk])], [(.e 0 0, LC.mk (U := U) .u64 re_0_0_d 0)]⟩ : LSt U)
noncomputable abbrev A76 (N : Nat) (p : List Nat) := awp cfg (know (know76 N)) (drawOk cfg (know (know76 N))) Try.f76.ntmps lv76 (cd Try.f76 p)
noncomputable abbrev S76 (N : Nat) (p : List Nat) := seqK cfg (know (know76 N)) (drawOk cfg (know (know76 N))) Try.f76.ntmps lv76 (cd Try.f76 p)
theorem vc76 (N : Nat) (l : List Int) (at_ : Int) (t : Tree) (Q : AExit → LSt U → Prop) (h : ∀ y_1, y_1 = (t) → ∀ y_2, y_2 = (IntKind.wrap .u64 ((8 : Int) * (IntKind.wrap .u64 ((Tree.kids t).length : Int)))) → ∀ y_3, y_3 = (IntKind.wrap .u64 ((65536 : Int) * (IntKind.wrap .u64 ((Tree.kids t).length : Int)))) → ∀ y_4, y_4 = (IntKind.wrap .u64 (((IntKind.wrap .u64 (((Tree.kind t) : Int) - 2)) : Int) + y_2)) → ∀ y_5, y_5 = (IntKind.wrap .u64 (((IntKind.wrap .u64 ((Tree.words t).length : Int)) : Int) + y_3)) → ∀ y_6, y_6 = (IntKind.wrap .u64 ((((Tree.kids t).length : Int) : Int) * (((frW (Tree.kids y_1) : Int) : Int) + (frK (Tree.kids y_1) : Int)))) → ∀ y_7, y_7 = (List.set l (Int.toNat at_) (ptrP at_ (l.length : Int) 0 y_5)) → ∀ y_8, y_8 = (IntKind.wrap .u64 ((7 : Int) + (IntKind.wrap .u64 ((8 : Int) * y_6)))) → ((((((((Tree.kind t) : Int) == 0) = true → (Q .ret (⟨[(6, .c (.mref (.e 6 0)))], [], [(.e 6 0, LC.mk (U := U) .u64 l 0)]⟩ : LSt U))) ∧ ((((Tree.kind t) : Int) == 0) = false → (((((Tree.kind t) : Int) == 1) = true → (InR ((((Tree.words t).length : Int) : Int) + ((Tree.kids t).length : Int))) ∧ ((((((((Tree.words t).length : Int) : Int) + ((Tree.kids t).length : Int)) : Int) == 0) = true → ((pre102 (at_, at_, 0, y_5, ())) ∧ ((0 : Int) ≤ at_ ∧ at_ < (l.length : Int)) ∧ ((0 : Nat) ≤ (Int.toNat at_)) ∧ ((((List.set l (Int.toNat at_) (ptrP at_ at_ 0 y_5)).length + (Tree.words t).length) * 8 ≤ 140737488355328) ∧ ((pre103 (((List.set l (Int.toNat at_) (ptrP at_ at_ 0 y_5)) ++ (Tree.words t)), ((Tree.kids t).length : Int), ())) ∧ ((LoopWp (A76 N [1, 1, 0, 1, 0, 1, 1, 1, 0, 1, 1, 1, 1, 0, 1, 0, 0]) (head76_0 l at_ t at_ (((List.set l (Int.toNat at_) (ptrP at_ at_ 0 y_5)) ++ (Tree.words t)) ++ zs (Int.toNat ((Tree.kids t).length : Int))) 0) (AExit.inBlock 1 (S76 N [1, 1, 0, 1, 0, 1, 1, 1, 0, 1, 1, 1, 1, 1] (AExit.inBlock 0 (S76 N [1, 1, 1] Q)))))))))) ∧ (((((((Tree.words t).length : Int) : Int) + ((Tree.kids t).length : Int)) : Int) == 0) = false → (pre102 (at_, (l.length : Int), 0, y_5, ())) ∧ ((0 : Int) ≤ at_ ∧ at_ < (l.length : Int)) ∧ ((0 : Nat) ≤ (Int.toNat at_)) ∧ (((y_7.length + (Tree.words t).length) * 8 ≤ 140737488355328) ∧ ((pre103 ((y_7 ++ (Tree.words t)), ((Tree.kids t).length : Int), ())) ∧ ((LoopWp (A76 N [1, 1, 0, 1, 0, 1, 1, 1, 0, 1, 1, 1, 1, 0, 1, 0, 0]) (head76_0 l at_ t (l.length : Int) ((y_7 ++ (Tree.words t)) ++ zs (Int.toNat ((Tree.kids t).length : Int))) 0) (AExit.inBlock 1 (S76 N [1, 1, 0, 1, 0, 1, 1, 1, 0, 1, 1, 1, 1, 1] (AExit.inBlock 0 (S76 N [1, 1, 1] Q))))))))))) ∧ ((((Tree.kind t) : Int) == 1) = false → (((((Tree.kind t) : Int) == 8) = true → (pre102 (at_, (l.length : Int), 1, (IntKind.wrap .u64 ((6 : Int) + y_2)), ())) ∧ ((0 : Int) ≤ at_ ∧ at_ < (l.length : Int)) ∧ ((0 : Nat) ≤ (Int.toNat at_)) ∧ ((pre103 ((List.set l (Int.toNat at_) (ptrP at_ (l.length : Int) 1 (IntKind.wrap .u64 ((6 : Int) + y_2)))), ((Tree.kids t).length : Int), ())) ∧ ((LoopWp (A76 N [1, 1, 0, 1, 0, 1, 1, 1, 1, 1, 0, 1, 1, 0, 1, 0, 0]) (head76_1 l at_ t 0 ((List.set l (Int.toNat at_) (ptrP at_ (l.length : Int) 1 (IntKind.wrap .u64 ((6 : Int) + y_2)))) ++ zs (Int.toNat ((Tree.kids t).length : Int)))) (AExit.inBlock 3 (S76 N [1, 1, 0, 1, 0, 1, 1, 1, 1, 1, 0, 1, 1, 1] (AExit.inBlock 0 (S76 N [1, 1, 1] Q)))))))) ∧ ((((Tree.kind t) : Int) == 8) = false → (((((Tree.kind t) : Int) == 9) = true → (pre82 (y_1, ())) ∧ (((InR (((frW (Tree.kids y_1) : Int) : Int) + (frK (Tree.kids y_1) : Int))) ∧ (InR ((((Tree.kids t).length : Int) : Int) * (((frW (Tree.kids y_1) : Int) : Int) + (frK (Tree.kids y_1) : Int)))) ∧ (pre102 (at_, (l.length : Int), 1, y_8, ())) ∧ ((0 : Int) ≤ at_ ∧ at_ < (l.length : Int)) ∧ ((0 : Nat) ≤ (Int.toNat at_)) ∧ ((InR ((4 : Int) * ((Tree.kids t).length : Int))) ∧ (((List.set l (Int.toNat at_) (ptrP at_ (l.length : Int) 1 y_8)).length + ([IntKind.wrap .u64 (((IntKind.wrap .u64 ((4 : Int) * ((Tree.kids t).length : Int))) : Int) + (IntKind.wrap .u64 ((4294967296 : Int) * (IntKind.wrap .u64 (((IntKind.wrap .u64 (frW (Tree.kids y_1) : Int)) : Int) + (IntKind.wrap .u64 ((65536 : Int) * (IntKind.wrap .u64 (frK (Tree.kids y_1) : Int)))))))))]).length) * 8 ≤ 140737488355328) ∧ ((LoopWp (A76 N [1, 1, 0, 1, 0, 1, 1, 1, 1, 1, 1, 1, 0, 1, 1, 1, 1, 0, 1, 0, 0]) (head76_2 l at_ t 0 ((List.set l (Int.toNat at_) (ptrP at_ (l.length : Int) 1 y_8)) ++ ([IntKind.wrap .u64 (((IntKind.wrap .u64 ((4 : Int) * ((Tree.kids t).length : Int))) : Int) + (IntKind.wrap .u64 ((4294967296 : Int) * (IntKind.wrap .u64 (((IntKind.wrap .u64 (frW (Tree.kids y_1) : Int)) : Int) + (IntKind.wrap .u64 ((65536 : Int) * (IntKind.wrap .u64 (frK (Tree.kids y_1) : Int)))))))))]))) (AExit.inBlock 5 (S76 N [1, 1, 0, 1, 0, 1, 1, 1, 1, 1, 1, 1, 0, 1, 1, 1, 1, 1] (AExit.inBlock 0 (S76 N [1, 1, 1] Q)))))))))) ∧ ((((Tree.kind t) : Int) == 9) = false → (InR (((Tree.kind t) : Int) - 2)) ∧ (pre104 (y_1, ())) ∧ (pre18 ((((Tree.kind t) : Int) - 2), (numsP (Tree.kids y_1)), ())) ∧ ((InR (((Tree.kind t) : Int) - 2)) ∧ (pre102 (at_, (l.length : Int), 1, y_4, ())) ∧ ((0 : Int) ≤ at_ ∧ at_ < (l.length : Int)) ∧ ((0 : Nat) ≤ (Int.toNat at_)) ∧ ((((List.set l (Int.toNat at_) (ptrP at_ (l.length : Int) 1 y_4)).length + (putR (((Tree.kind t) : Int) - 2) (numsP (Tree.kids y_1))).length) * 8 ≤ 140737488355328) ∧ (Q .ret (⟨[(6, .c (.mref (.e 6 0)))], [], [(.e 6 0, LC.mk (U := U) .u64 ((List.set l (Int.toNat at_) (ptrP at_ (l.length : Int) 1 y_4)) ++ (putR (((Tree.kind t) : Int) - 2) (numsP (Tree.kids y_1)))) 0)]⟩ : LSt U)))))))))))))))) :
    A76 N [] (⟨[(0, .c (.mref (.e 0 0))), (1, .c (.int .i64 at_)), (2, .agg [.int .i64 (Tree.kind t), .slice (U := U) .u64 (Tree.words t) .unk, .slice (U := U) .tree (Tree.kids t) .unk])], [], [(.e 0 0, LC.mk (U := U) .u64 l 0)]⟩ : LSt U) Q :=
  (Eq.mpr (by kernel_rfl) (h _ (reTree_eq _) _ rfl _ rfl _ rfl _ rfl _ rfl _ rfl _ rfl) :)
theorem vc76_l0 (N : Nat) (l : List Int) (at_ : Int) (t : Tree) (x7 : Int) (re_0_0 : List Int) (x8 : Int) (N0 : LSt U → Prop) (Q : AExit → LSt U → Prop) (h : (((decide ((x8 : Int) < ((Tree.kids t).length : Int))) = true → (InR ((x7 : Int) + ((Tree.words t).length : Int))) ∧ (InR ((((x7 : Int) + ((Tree.words t).length : Int)) : Int) + x8)) ∧ ((0 : Int) ≤ x8 ∧ x8 < ((Tree.kids t).length : Int)) ∧ (pre76 (re_0_0, ((((x7 : Int) + ((Tree.words t).length : Int)) : Int) + x8), (Tree.mk (Tree.kind (List.getD (Tree.kids t) (Int.toNat x8) Tree.nil)) (Tree.words (List.getD (Tree.kids t) (Int.toNat x8) Tree.nil)) (Tree.kids (List.getD (Tree.kids t) (Int.toNat x8) Tree.nil))), ())) ∧ (mu76 (re_0_0, ((((x7 : Int) + ((Tree.words t).length : Int)) : Int) + x8), (Tree.mk (Tree.kind (List.getD (Tree.kids t) (Int.toNat x8) Tree.nil)) (Tree.words (List.getD (Tree.kids t) (Int.toNat x8) Tree.nil)) (Tree.kids (List.getD (Tree.kids t) (Int.toNat x8) Tree.nil))), ()) < N) ∧ ((InR ((x8 : Int) + 1)) ∧ (N0 (head76_0 l at_ t x7 (layP re_0_0 ((((x7 : Int) + ((Tree.words t).length : Int)) : Int) + x8) (Tree.mk (Tree.kind (List.getD (Tree.kids t) (Int.toNat x8) Tree.nil)) (Tree.words (List.getD (Tree.kids t) (Int.toNat x8) Tree.nil)) (Tree.kids (List.getD (Tree.kids t) (Int.toNat x8) Tree.nil)))) ((x8 : Int) + 1))))) ∧ ((decide ((x8 : Int) < ((Tree.kids t).length : Int))) = false → (Q .ret (⟨[(6, .c (.mref (.e 6 0)))], [], [(.e 6 0, LC.mk (U := U) .u64 re_0_0 0)]⟩ : LSt U))))) :
    A76 N [1, 1, 0, 1, 0, 1, 1, 1, 0, 1, 1, 1, 1, 0, 1, 0, 0] (head76_0 l at_ t x7 re_0_0 x8) (AExit.then N0 (AExit.inBlock 1 (S76 N [1, 1, 0, 1, 0, 1, 1, 1, 0, 1, 1, 1, 1, 1] (AExit.inBlock 0 (S76 N [1, 1, 1] Q))))) :=
  (Eq.mpr (by kernel_rfl) h :)
theorem vc76_l1 (N : Nat) (l : List Int) (at_ : Int) (t : Tree) (x9_a : Int) (re_0_0_a : List Int) (N1 : LSt U → Prop) (Q : AExit → LSt U → Prop) (h : (((decide ((x9_a : Int) < ((Tree.kids t).length : Int))) = true → (InR (((l.length : Int) : Int) + x9_a)) ∧ ((0 : Int) ≤ x9_a ∧ x9_a < ((Tree.kids t).length : Int)) ∧ (pre76 (re_0_0_a, (((l.length : Int) : Int) + x9_a), (Tree.mk (Tree.kind (List.getD (Tree.kids t) (Int.toNat x9_a) Tree.nil)) (Tree.words (List.getD (Tree.kids t) (Int.toNat x9_a) Tree.nil)) (Tree.kids (List.getD (Tree.kids t) (Int.toNat x9_a) Tree.nil))), ())) ∧ (mu76 (re_0_0_a, (((l.length : Int) : Int) + x9_a), (Tree.mk (Tree.kind (List.getD (Tree.kids t) (Int.toNat x9_a) Tree.nil)) (Tree.words (List.getD (Tree.kids t) (Int.toNat x9_a) Tree.nil)) (Tree.kids (List.getD (Tree.kids t) (Int.toNat x9_a) Tree.nil))), ()) < N) ∧ ((InR ((x9_a : Int) + 1)) ∧ (N1 (head76_1 l at_ t ((x9_a : Int) + 1) (layP re_0_0_a (((l.length : Int) : Int) + x9_a) (Tree.mk (Tree.kind (List.getD (Tree.kids t) (Int.toNat x9_a) Tree.nil)) (Tree.words (List.getD (Tree.kids t) (Int.toNat x9_a) Tree.nil)) (Tree.kids (List.getD (Tree.kids t) (Int.toNat x9_a) Tree.nil)))))))) ∧ ((decide ((x9_a : Int) < ((Tree.kids t).length : Int))) = false → (Q .ret (⟨[(6, .c (.mref (.e 6 0)))], [], [(.e 6 0, LC.mk (U := U) .u64 re_0_0_a 0)]⟩ : LSt U))))) :
    A76 N [1, 1, 0, 1, 0, 1, 1, 1, 1, 1, 0, 1, 1, 0, 1, 0, 0] (head76_1 l at_ t x9_a re_0_0_a) (AExit.then N1 (AExit.inBlock 3 (S76 N [1, 1, 0, 1, 0, 1, 1, 1, 1, 1, 0, 1, 1, 1] (AExit.inBlock 0 (S76 N [1, 1, 1] Q))))) :=
  (Eq.mpr (by kernel_rfl) h :)
theorem vc76_l2 (N : Nat) (l : List Int) (at_ : Int) (t : Tree) (x13_b : Int) (re_0_0_b : List Int) (N2 : LSt U → Prop) (Q : AExit → LSt U → Prop) (h : ∀ y_1, y_1 = (t) → ∀ y_2, y_2 = (List.getD (Tree.kids t) (Int.toNat x13_b) Tree.nil) → (((decide ((x13_b : Int) < ((Tree.kids t).length : Int))) = true → ((0 : Int) ≤ x13_b ∧ x13_b < ((Tree.kids t).length : Int)) ∧ ((re_0_0_b.length + (Tree.words y_2).length) * 8 ≤ 140737488355328) ∧ ((InR (((frW (Tree.kids y_1) : Int) : Int) + (frK (Tree.kids y_1) : Int))) ∧ ((0 : Int) ≤ x13_b ∧ x13_b < ((Tree.kids t).length : Int)) ∧ (InR (((((frW (Tree.kids y_1) : Int) : Int) + (frK (Tree.kids y_1) : Int)) : Int) - ((Tree.words y_2).length : Int))) ∧ (pre103 ((re_0_0_b ++ (Tree.words y_2)), (((((frW (Tree.kids y_1) : Int) : Int) + (frK (Tree.kids y_1) : Int)) : Int) - ((Tree.words y_2).length : Int)), ())) ∧ ((InR ((x13_b : Int) + 1)) ∧ (N2 (head76_2 l at_ t ((x13_b : Int) + 1) ((re_0_0_b ++ (Tree.words y_2)) ++ zs (Int.toNat (((((frW (Tree.kids y_1) : Int) : Int) + (frK (Tree.kids y_1) : Int)) : Int) - ((Tree.words y_2).length : Int))))))))) ∧ ((decide ((x13_b : Int) < ((Tree.kids t).length : Int))) = false → (LoopWp (A76 N [1, 1, 0, 1, 0, 1, 1, 1, 1, 1, 1, 1, 0, 1, 1, 1, 1, 1, 0, 1, 0, 0]) (head76_3 l at_ t 0 re_0_0_b) (AExit.inBlock 7 (S76 N [1, 1, 0, 1, 0, 1, 1, 1, 1, 1, 1, 1, 0, 1, 1, 1, 1, 1, 1] (AExit.inBlock 0 (S76 N [1, 1, 1] Q)))))))) :
    A76 N [1, 1, 0, 1, 0, 1, 1, 1, 1, 1, 1, 1, 0, 1, 1, 1, 1, 0, 1, 0, 0] (head76_2 l at_ t x13_b re_0_0_b) (AExit.then N2 (AExit.inBlock 5 (S76 N [1, 1, 0, 1, 0, 1, 1, 1, 1, 1, 1, 1, 0, 1, 1, 1, 1, 1] (AExit.inBlock 0 (S76 N [1, 1, 1] Q))))) :=
  (Eq.mpr (by kernel_rfl) (h _ (reTree_eq _) _ rfl) :)
theorem vc76_l3 (N : Nat) (l : List Int) (at_ : Int) (t : Tree) (x14_c : Int) (re_0_0_c : List Int) (N3 : LSt U → Prop) (Q : AExit → LSt U → Prop) (h : (((decide ((x14_c : Int) < ((Tree.kids t).length : Int))) = true → (LoopWp (A76 N [1, 1, 0, 1, 0, 1, 1, 1, 1, 1, 1, 1, 0, 1, 1, 1, 1, 1, 0, 1, 0, 0, 1, 0, 0, 1, 0, 0]) (head76_4 l at_ t x14_c 0 re_0_0_c) (AExit.inBlock 9 (AExit.inBlock 8 (S76 N [1, 1, 0, 1, 0, 1, 1, 1, 1, 1, 1, 1, 0, 1, 1, 1, 1, 1, 0, 1, 0, 0, 1, 1] (AExit.then N3 (AExit.inBlock 7 (S76 N [1, 1, 0, 1, 0, 1, 1, 1, 1, 1, 1, 1, 0, 1, 1, 1, 1, 1, 1] (AExit.inBlock 0 (S76 N [1, 1, 1] Q)))))))))) ∧ ((decide ((x14_c : Int) < ((Tree.kids t).length : Int))) = false → (Q .ret (⟨[(6, .c (.mref (.e 6 0)))], [], [(.e 6 0, LC.mk (U := U) .u64 re_0_0_c 0)]⟩ : LSt U))))) :
    A76 N [1, 1, 0, 1, 0, 1, 1, 1, 1, 1, 1, 1, 0, 1, 1, 1, 1, 1, 0, 1, 0, 0] (head76_3 l at_ t x14_c re_0_0_c) (AExit.then N3 (AExit.inBlock 7 (S76 N [1, 1, 0, 1, 0, 1, 1, 1, 1, 1, 1, 1, 0, 1, 1, 1, 1, 1, 1] (AExit.inBlock 0 (S76 N [1, 1, 1] Q))))) :=
  (Eq.mpr (by kernel_rfl) h :)
theorem vc76_l4 (N : Nat) (l : List Int) (at_ : Int) (t : Tree) (x14_c : Int) (x15_d : Int) (re_0_0_d : List Int) (N4 : LSt U → Prop) (N3 : LSt U → Prop) (Q : AExit → LSt U → Prop) (h : ∀ y_1, y_1 = (t) → ∀ y_2, y_2 = (List.getD (Tree.kids t) (Int.toNat x14_c) Tree.nil) → ∀ y_3, y_3 = (List.getD (Tree.kids y_2) (Int.toNat x15_d) Tree.nil) → ∀ y_4, y_4 = (y_3) → ((0 : Int) ≤ x14_c ∧ x14_c < ((Tree.kids t).length : Int)) ∧ (((decide ((x15_d : Int) < ((Tree.kids y_2).length : Int))) = true → (InR (((l.length : Int) : Int) + 1)) ∧ (InR (((frW (Tree.kids y_1) : Int) : Int) + (frK (Tree.kids y_1) : Int))) ∧ (InR ((x14_c : Int) * (((frW (Tree.kids y_1) : Int) : Int) + (frK (Tree.kids y_1) : Int)))) ∧ (InR (((((l.length : Int) : Int) + 1) : Int) + ((x14_c : Int) * (((frW (Tree.kids y_1) : Int) : Int) + (frK (Tree.kids y_1) : Int))))) ∧ (InR (((((((l.length : Int) : Int) + 1) : Int) + ((x14_c : Int) * (((frW (Tree.kids y_1) : Int) : Int) + (frK (Tree.kids y_1) : Int)))) : Int) + (frW (Tree.kids y_1) : Int))) ∧ (InR (((((((((l.length : Int) : Int) + 1) : Int) + ((x14_c : Int) * (((frW (Tree.kids y_1) : Int) : Int) + (frK (Tree.kids y_1) : Int)))) : Int) + (frW (Tree.kids y_1) : Int)) : Int) + x15_d)) ∧ ((0 : Int) ≤ x14_c ∧ x14_c < ((Tree.kids t).length : Int)) ∧ ((0 : Int) ≤ x15_d ∧ x15_d < ((Tree.kids y_2).length : Int)) ∧ (pre76 (re_0_0_d, (((((((((l.length : Int) : Int) + 1) : Int) + ((x14_c : Int) * (((frW (Tree.kids y_1) : Int) : Int) + (frK (Tree.kids y_1) : Int)))) : Int) + (frW (Tree.kids y_1) : Int)) : Int) + x15_d), y_4, ())) ∧ (mu76 (re_0_0_d, (((((((((l.length : Int) : Int) + 1) : Int) + ((x14_c : Int) * (((frW (Tree.kids y_1) : Int) : Int) + (frK (Tree.kids y_1) : Int)))) : Int) + (frW (Tree.kids y_1) : Int)) : Int) + x15_d), y_4, ()) < N) ∧ ((InR ((x15_d : Int) + 1)) ∧ (N4 (head76_4 l at_ t x14_c ((x15_d : Int) + 1) (layP re_0_0_d (((((((((l.length : Int) : Int) + 1) : Int) + ((x14_c : Int) * (((frW (Tree.kids y_1) : Int) : Int) + (frK (Tree.kids y_1) : Int)))) : Int) + (frW (Tree.kids y_1) : Int)) : Int) + x15_d) y_4))))) ∧ ((decide ((x15_d : Int) < ((Tree.kids y_2).length : Int))) = false → (InR ((x14_c : Int) + 1)) ∧ (N3 (head76_3 l at_ t ((x14_c : Int) + 1) re_0_0_d))))) :
    A76 N [1, 1, 0, 1, 0, 1, 1, 1, 1, 1, 1, 1, 0, 1, 1, 1, 1, 1, 0, 1, 0, 0, 1, 0, 0, 1, 0, 0] (head76_4 l at_ t x14_c x15_d re_0_0_d) (AExit.then N4 (AExit.inBlock 9 (AExit.inBlock 8 (S76 N [1, 1, 0, 1, 0, 1, 1, 1, 1, 1, 1, 1, 0, 1, 1, 1, 1, 1, 0, 1, 0, 0, 1, 1] (AExit.then N3 (AExit.inBlock 7 (S76 N [1, 1, 0, 1, 0, 1, 1, 1, 1, 1, 1, 1, 0, 1, 1, 1, 1, 1, 1] (AExit.inBlock 0 (S76 N [1, 1, 1] Q))))))))) :=
  (Eq.mpr (by kernel_rfl) (h _ (reTree_eq _) _ rfl _ rfl _ (reTree_eq _)) :)
abbrev Body76 (N : Nat) (l : List Int) (at_ : Int) (t : Tree)  : Prop := awp cfg (know (know76 N)) (drawOk cfg (know (know76 N))) Try.f76.ntmps lv76 (cd Try.f76 []) (entryL (args76.can (l, at_, t, ())) (args76.canX (l, at_, t, ())) (args76.canL (l, at_, t, ()))) (EndsQL cfg Try.f76.ntmps Try.f76.results.toList (res76 (l, at_, t, ())) (resX76 (l, at_, t, ())) (resL76 (l, at_, t, ())))
theorem make76 (c102 : Contract Try.prog cfg 102 spec102) (c103 : Contract Try.prog cfg 103 spec103) (c104 : Contract Try.prog cfg 104 spec104) (c82 : Contract Try.prog cfg 82 spec82) (c18 : Contract Try.prog cfg 18 spec18) (hb : ∀ (N : Nat) (l : List Int) (at_ : Int) (t : Tree) (_ : Unit), pre76 (l, at_, t, ()) → mu76 (l, at_, t, ()) < N + 1 → Body76 N l at_ t) : Contract Try.prog cfg 76 spec76 :=
  contractXL_rec (μ := mu76) (l := [(102, spec102), (103, spec103), (104, spec104), (82, spec82), (18, spec18)]) cfgOk rfl (⟨c102, c103, c104, c82, c18, trivial⟩) lv76 Try.func76 rfl rfl 3 (fun _ => rfl) (by decide) (fun N ⟨l, at_, t, _⟩ => hb N l at_ t ())

noncomputable def know36 : List (FuncId × Fs U) := [(43, spec43), (50, spec50), (54, spec54), (76, spec76)]
def lv36 : Lives U := fun i => match i with
  | 0 => ([(1, []), (2, [])], [((.loc 2), [])])
  | 1 => ([(1, []), (2, []), (13, [])], [((.loc 2), [])])
  | 2 => ([(4, []), (5, [])], [])
  | 3 => ([(1, []), (2, [])], [((.loc 2), [])])
  | 4 => ([(2, []), (24, [])], [((.loc 2), [])])
  | 5 => ([(4, []), (5, [])], [])
  | 6 => ([(4, []), (5, [])], [])
  | _ => ([], [])
noncomputable abbrev A36 (p : List Nat) := awp cfg (knowM know36) (drawOk cfg (knowM know36)) Try.f36.ntmps lv36 (cd Try.f36 p)
theorem vc36 (t : Tree) (most : Int) (Q : AExit → LSt U → Prop) (h : ∀ y_1, y_1 = (t) → ∀ y_2, y_2 = ((normT y_1)) → ((pre43 (y_1, 64, ())) ∧ (Tr ((!(!(rightT y_1 64))) = true)) ∧ (Tr ((!(!(rightT y_1 64))) = true)) ∧ (((!(rightT y_1 64)) = false → (!(!(rightT y_1 64))) = true)) ∧ (((bif (!(rightT y_1 64)) then true else (((Tree.kind t) : Int) == 10)) = true → (Q .ret (⟨[(4, .c (.nils)), (5, .c (.bool false))], [], []⟩ : LSt U))) ∧ ((bif (!(rightT y_1 64)) then true else (((Tree.kind t) : Int) == 10)) = false → (pre50 (y_1, ())) ∧ ((pre54 (y_2, ())) ∧ (Tr ((!(decide ((most : Int) ≤ (sizeN y_2 : Int)))) = true)) ∧ ((!(decide ((most : Int) ≤ (sizeN y_2 : Int)))) = true → pre54 (y_2, ())) ∧ (Tr ((!(decide ((most : Int) ≤ (sizeN y_2 : Int)))) = true)) ∧ (((decide ((most : Int) ≤ (sizeN y_2 : Int))) = false → (!(decide ((most : Int) ≤ (sizeN y_2 : Int)))) = true)) ∧ (((bif (decide ((most : Int) ≤ (sizeN y_2 : Int))) then true else (decide ((131072 : Int) ≤ (sizeN y_2 : Int)))) = true → (Q .ret (⟨[(4, .c (.nils)), (5, .c (.bool false))], [], []⟩ : LSt U))) ∧ ((bif (decide ((most : Int) ≤ (sizeN y_2 : Int))) then true else (decide ((131072 : Int) ≤ (sizeN y_2 : Int)))) = false → (pre76 (([0]), 0, y_2, ())) ∧ (Q .ret (⟨[(4, .c (.slice (U := U) .u64 (layP ([0]) 0 y_2) (.own (.e 4 0)))), (5, .c (.bool true))], [], []⟩ : LSt U))))))))) :
    A36 [] (⟨[(0, .agg [.int .i64 (Tree.kind t), .slice (U := U) .u64 (Tree.words t) .unk, .slice (U := U) .tree (Tree.kids t) .unk]), (1, .c (.int .i64 most))], [], []⟩ : LSt U) Q :=
  (Eq.mpr (by kernel_rfl) (h _ (reTree_eq _) _ (reTree_eq _)) :)
abbrev Body36 (t : Tree) (most : Int)  : Prop := awp cfg (knowM (know36)) (drawOk cfg (knowM (know36))) Try.f36.ntmps lv36 (cd Try.f36 []) (entry (args36.can (t, most, ())) []) (EndsQ cfg Try.f36.ntmps Try.f36.results.toList (res36 (t, most, ())) [])
theorem make36 (c43 : Contract Try.prog cfg 43 spec43) (c50 : Contract Try.prog cfg 50 spec50) (c54 : Contract Try.prog cfg 54 spec54) (c76 : Contract Try.prog cfg 76 spec76) (hb : ∀ (t : Tree) (most : Int) (_ : Unit), pre36 (t, most, ()) → Body36 t most) : Contract Try.prog cfg 36 spec36 :=
  contract_flatM (l := [(43, spec43), (50, spec50), (54, spec54), (76, spec76)]) cfgOk rfl (⟨c43, c50, c54, c76, trivial⟩) lv36 Try.func36 rfl rfl 2 (fun _ => rfl) (by decide) (fun ⟨t, most, _⟩ => hb t most ())

end Go.AM.Ythokdjgpdonhgaa
