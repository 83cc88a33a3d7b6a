/- Chapter 20: the bodies: words, and what is small. -/
import Derived.Test.YtlahjnelghpmeaaG20a
set_option linter.unusedSimpArgs false
set_option linter.unusedVariables false
namespace Go.AM.Ytlahjnelghpmeaa
open Go.AM Go.Proofs

theorem wrap_u64 {n : Int} (h0 : 0 ≤ n) (h1 : n < 18446744073709551616) : IntKind.wrap .u64 n = n := by
  simp [IntKind.wrap, IntKind.signed, IntKind.bits]; omega

theorem wrap_u8 {n : Int} (h0 : 0 ≤ n) (h1 : n < 256) : IntKind.wrap .u8 n = n := by
  simp [IntKind.wrap, IntKind.signed, IntKind.bits]; omega

theorem aSet_if {i : Int} {j : Nat} {v : Int} {F G : Nat → Int} (hi : 0 ≤ i) (hv : v = F i.toNat) : aSet i j v (if (j : Int) < i then F j else G j) = if (j : Int) < i + 1 then F j else G j := by
  unfold aSet
  by_cases h : i = j
  · subst h
    rw [if_pos rfl, if_pos (by omega), hv]
    simp
  · rw [if_neg h]
    by_cases h2 : (j : Int) < i
    · rw [if_pos h2, if_pos (by omega)]
    · rw [if_neg h2, if_neg (by omega)]

theorem if_step {i : Int} {j : Nat} {F G : Nat → Int} (h : F i.toNat = G i.toNat) (hi : 0 ≤ i) : (if (j : Int) < i then F j else G j) = if (j : Int) < i + 1 then F j else G j := by
  by_cases h2 : (j : Int) < i
  · rw [if_pos h2, if_pos (by omega)]
  · by_cases h3 : (j : Int) = i
    · subst h3
      rw [if_neg h2, if_pos (by omega)]
      simpa using h.symm
    · rw [if_neg h2, if_neg (by omega)]

theorem byteAt_range (w : Int) (i : Nat) : 0 ≤ byteAt w i ∧ byteAt w i < 256 := by
  unfold byteAt
  omega

theorem div_pow_nonneg {w : Int} (h : 0 ≤ w) (i : Nat) : 0 ≤ w / 256 ^ i := Int.ediv_nonneg h (Int.le_of_lt (Int.pow_pos (by omega)))

theorem div_pow_le {w : Int} (h : 0 ≤ w) (i : Nat) : w / 256 ^ i ≤ w := Int.ediv_le_self _ h

theorem div_pow_succ (w : Int) (i : Nat) : w / 256 ^ i / 256 = w / 256 ^ (i + 1) := by
  rw [Int.ediv_ediv_of_nonneg (Int.le_of_lt (Int.pow_pos (by omega))), Int.pow_succ]

theorem c128 : Contract Try.prog cfg 128 spec128 := by
  refine make128 ?_
  intro w _ hp
  simp only [pre128] at hp
  refine vc128 _ _ ?_
  refine loop_rule (ι := Int) (fun i => head128_0 w (w / 256 ^ i.toNat) i (if ((0 : Nat) : Int) < i then byteAt w 0 else 0) (if ((1 : Nat) : Int) < i then byteAt w 1 else 0) (if ((2 : Nat) : Int) < i then byteAt w 2 else 0) (if ((3 : Nat) : Int) < i then byteAt w 3 else 0)
    (if ((4 : Nat) : Int) < i then byteAt w 4 else 0) (if ((5 : Nat) : Int) < i then byteAt w 5 else 0) (if ((6 : Nat) : Int) < i then byteAt w 6 else 0) (if ((7 : Nat) : Int) < i then byteAt w 7 else 0)) (fun i => 0 ≤ i ∧ i ≤ 8) (fun i => (8 - i).toNat) 0 ?_ ⟨by omega, by omega⟩ ?_
  · simp [head128_0]
  · rintro i ⟨h1, h2⟩
    refine vc128_l0 _ _ _ _ _ _ _ _ _ _ _ _ _ ?_
    (simp only [bif_tl, bif_fr, bif_tlf, bif_frf, Bool.not_eq_true', Bool.not_eq_false', decide_eq_true_eq, decide_eq_false_iff_not, beq_iff_eq, beq_eq_false_iff_ne, bne_iff_ne, ne_eq, bne_eq_false_iff_eq, Bool.or_eq_true, Bool.and_eq_true, Bool.or_eq_false_iff, Bool.and_eq_false_imp])
    refine ⟨fun hc => ⟨by omega, ⟨h1, by omega⟩, by omega, by unfold InR; omega, i + 1, ?_, ⟨by omega, by omega⟩, by omega⟩, fun hc => ?_⟩
    · have hd := div_pow_nonneg hp.1 i.toNat
      have hl := div_pow_le hp.1 i.toNat
      have e1 : IntKind.wrap .u64 (Int.tdiv (w / 256 ^ i.toNat) 256) = w / 256 ^ (i + 1).toNat := by
        rw [Int.tdiv_eq_ediv_of_nonneg hd, div_pow_succ, show i.toNat + 1 = (i + 1).toNat by omega]
        exact wrap_u64 (div_pow_nonneg hp.1 _) (Int.lt_of_le_of_lt (div_pow_le hp.1 _) hp.2)
      have e2 : IntKind.wrap .u8 (Int.tmod (w / 256 ^ i.toNat) 256) = byteAt w i.toNat := by
        rw [Int.tmod_eq_emod_of_nonneg hd]
        exact wrap_u8 (byteAt_range w _).1 (byteAt_range w _).2
      rw [e1]
      have st : ∀ j : Nat, aSet i j (IntKind.wrap .u8 (Int.tmod (w / 256 ^ i.toNat) 256)) (if (j : Int) < i then byteAt w j else 0) = if (j : Int) < i + 1 then byteAt w j else 0 := fun j => aSet_if (F := byteAt w) (G := fun _ => 0) h1 e2
      rw [st 0, st 1, st 2, st 3, st 4, st 5, st 6, st 7]
    · have : i = 8 := by omega
      subst this
      simp only [res128]
      exact ⟨⟨rfl, ⟨⟨rfl, rfl⟩, ⟨rfl, rfl⟩, ⟨rfl, rfl⟩, ⟨rfl, rfl⟩, ⟨rfl, rfl⟩, ⟨rfl, rfl⟩, ⟨rfl, rfl⟩, ⟨rfl, rfl⟩, trivial⟩, trivial⟩, trivial⟩

theorem c129 : Contract Try.prog cfg 129 spec129 := by
  refine make129 ?_
  intro m i _ hp
  simp only [pre129] at hp
  refine vc129 _ _ _ ?_
  refine loop_rule (ι := Int) (fun k => head129_0 m i (m / 2 ^ k.toNat) k) (fun k => 0 ≤ k ∧ k ≤ i) (fun k => (i - k).toNat) 0 ?_ ⟨by omega, by omega⟩ ?_
  · simp
  · rintro k ⟨h1, h2⟩
    refine vc129_l0 _ _ _ _ _ _ ?_
    have hd : 0 ≤ m / 2 ^ k.toNat := Int.ediv_nonneg hp.1.1 (Int.le_of_lt (Int.pow_pos (by omega)))
    have hl : m / 2 ^ k.toNat ≤ m := Int.ediv_le_self _ hp.1.1
    (simp only [bif_tl, bif_fr, bif_tlf, bif_frf, Bool.not_eq_true', Bool.not_eq_false', decide_eq_true_eq, decide_eq_false_iff_not, beq_iff_eq, beq_eq_false_iff_ne, bne_iff_ne, ne_eq, bne_eq_false_iff_eq, Bool.or_eq_true, Bool.and_eq_true, Bool.or_eq_false_iff, Bool.and_eq_false_imp])
    refine ⟨fun hc => ⟨by omega, by unfold InR; omega, k + 1, ?_, ⟨by omega, by omega⟩, by omega⟩, fun hc => ⟨by omega, ends_bool rfl ?_⟩⟩
    · have e : IntKind.wrap .u8 (Int.tdiv (m / 2 ^ k.toNat) 2) = m / 2 ^ (k + 1).toNat := by
        rw [Int.tdiv_eq_ediv_of_nonneg hd, Int.ediv_ediv_of_nonneg (Int.le_of_lt (Int.pow_pos (by omega))), show (2 : Int) ^ k.toNat * 2 = 2 ^ (k + 1).toNat by rw [← Int.pow_succ]; congr 1; omega]
        refine wrap_u8 (Int.ediv_nonneg hp.1.1 (Int.le_of_lt (Int.pow_pos (by omega)))) (Int.lt_of_le_of_lt (Int.ediv_le_self _ hp.1.1) hp.1.2)
      rw [e]
    · have : k = i := by omega
      subst this
      rw [Int.tmod_eq_emod_of_nonneg hd]
      rfl

def topN (f : Nat → Int) : Nat → Int
  | 0 => 0
  | k + 1 => f (7 - k) + 256 * topN f k

theorem topN_range {f : Nat → Int} (h : ∀ i, 0 ≤ f i ∧ f i < 256) : ∀ k, 0 ≤ topN f k ∧ topN f k < 256 ^ k
  | 0 => by simp [topN]
  | k + 1 => by
    have := topN_range h k
    have h2 := h (7 - k)
    simp only [topN, Int.pow_succ]
    omega

theorem topN_8 (f : Nat → Int) : topN f 8 = of8 f := by simp [topN, of8]

theorem c130 : Contract Try.prog cfg 130 spec130 := by
  refine make130 ?_
  intro b z _ hp
  obtain ⟨rfl, hl, hb⟩ := hp
  dsimp only at hl hb
  refine vc130 _ _ _ ?_
  have hf : ∀ i, 0 ≤ b.getD i 0 ∧ b.getD i 0 < 256 := by
    intro i
    by_cases hi : i < b.length
    · have : b.getD i 0 ∈ b := by
        simp only [List.getD, List.getElem?_eq_getElem hi, Option.getD_some]
        exact List.getElem_mem hi
      exact hb _ this
    · rw [List.getD, List.getElem?_eq_none (by omega)]; simp
  refine loop_rule (ι := Int) (fun i => head130_0 b 0 (topN (fun i => b.getD i 0) (7 - i).toNat) i) (fun i => -1 ≤ i ∧ i ≤ 7) (fun i => (i + 1).toNat) 7 rfl ⟨by omega, by omega⟩ ?_
  rintro i ⟨h1, h2⟩
  refine vc130_l0 _ _ _ _ _ _ ?_
  (simp only [bif_tl, bif_fr, bif_tlf, bif_frf, Bool.not_eq_true', Bool.not_eq_false', decide_eq_true_eq, decide_eq_false_iff_not, beq_iff_eq, beq_eq_false_iff_ne, bne_iff_ne, ne_eq, bne_eq_false_iff_eq, Bool.or_eq_true, Bool.and_eq_true, Bool.or_eq_false_iff, Bool.and_eq_false_imp])
  have hr := topN_range (f := fun i => b.getD i 0) hf (7 - i).toNat
  refine ⟨fun hc => ⟨by unfold InR; omega, by omega, by unfold InR; omega, i - 1, ?_, ⟨by omega, by omega⟩, by omega⟩, fun hc => ends_int rfl ?_⟩
  · have hp7 : (256 : Int) ^ (7 - i).toNat ≤ 256 ^ 7 := by
      have : (256 : Int) ^ (7 - i).toNat = ((256 ^ (7 - i).toNat : Nat) : Int) := by simp
      rw [this]
      have h7 : (256 : Nat) ^ (7 - i).toNat ≤ 256 ^ 7 := Nat.pow_le_pow_right (by omega) (by omega)
      have : ((256 : Nat) ^ 7 : Nat) = 72057594037927936 := by decide
      omega
    have e7 : (256 : Int) ^ 7 = 72057594037927936 := by decide
    have hfi := hf i.toNat
    have e : topN (fun i => b.getD i 0) (7 - (i - 1)).toNat = b.getD i.toNat 0 + 256 * topN (fun i => b.getD i 0) (7 - i).toNat := by
      rw [show (7 - (i - 1)).toNat = (7 - i).toNat + 1 by omega]
      simp only [topN]
      rw [show 7 - (7 - i).toNat = i.toNat by omega]
    rw [e, show (0 + i).toNat = i.toNat by omega, wrap_u64 (n := topN (fun i => b.getD i 0) (7 - i).toNat * 256) (by omega) (by omega), wrap_u64 (n := b.getD i.toNat 0) (by omega) (by omega), wrap_u64 (by omega) (by omega)]
    congr 1
    omega
  · have : i = -1 := by omega
    subst this
    exact topN_8 _

theorem getD8 (f : Nat → Int) {i : Nat} (h : i < 8) : List.getD [f 0, f 1, f 2, f 3, f 4, f 5, f 6, f 7] i 0 = f i := by
  match i, h with
  | 0, _ => rfl
  | 1, _ => rfl
  | 2, _ => rfl
  | 3, _ => rfl
  | 4, _ => rfl
  | 5, _ => rfl
  | 6, _ => rfl
  | 7, _ => rfl

theorem mixAt_range (a b m : Int) (i : Nat) : 0 ≤ mixAt a b m i ∧ mixAt a b m i < 256 := by
  unfold mixAt
  split
  · exact byteAt_range _ _
  · exact byteAt_range _ _

theorem c116 : Contract Try.prog cfg 116 spec116 := by
  refine make116 c128 c129 c130 ?_
  intro a b m _ hp
  simp only [pre116] at hp
  refine vc116 _ _ _ _ ?_
  refine ⟨hp.1, hp.2.1, ?_⟩
  refine loop_rule (ι := Int) (fun i => head116_0 a b m i (if ((0 : Nat) : Int) < i then mixAt a b m 0 else byteAt a 0) (if ((1 : Nat) : Int) < i then mixAt a b m 1 else byteAt a 1) (if ((2 : Nat) : Int) < i then mixAt a b m 2 else byteAt a 2) (if ((3 : Nat) : Int) < i then mixAt a b m 3 else byteAt a 3)
    (if ((4 : Nat) : Int) < i then mixAt a b m 4 else byteAt a 4) (if ((5 : Nat) : Int) < i then mixAt a b m 5 else byteAt a 5) (if ((6 : Nat) : Int) < i then mixAt a b m 6 else byteAt a 6) (if ((7 : Nat) : Int) < i then mixAt a b m 7 else byteAt a 7)) (fun i => 0 ≤ i ∧ i ≤ 8) (fun i => (8 - i).toNat) 0 ?_ ⟨by omega, by omega⟩ ?_
  · simp [head116_0]
  · rintro i ⟨h1, h2⟩
    refine vc116_l0 _ _ _ _ _ _ _ _ _ _ _ _ _ _ ?_
    (simp only [bif_tl, bif_fr, bif_tlf, bif_frf, Bool.not_eq_true', Bool.not_eq_false', decide_eq_true_eq, decide_eq_false_iff_not, beq_iff_eq, beq_eq_false_iff_ne, bne_iff_ne, ne_eq, bne_eq_false_iff_eq, Bool.or_eq_true, Bool.and_eq_true, Bool.or_eq_false_iff, Bool.and_eq_false_imp])
    refine ⟨fun hc => ⟨⟨hp.2.2, h1, by dsimp only; omega⟩, fun hn => ⟨⟨h1, by omega⟩, ⟨h1, by omega⟩, by unfold InR; omega, i + 1, ?_, ⟨by omega, by omega⟩, by omega⟩, fun hn => ⟨by unfold InR; omega, i + 1, ?_, ⟨by omega, by omega⟩, by omega⟩⟩, fun hc => ?_⟩
    · rw [getD8 (byteAt b) (by omega)]
      have hv : byteAt b i.toNat = mixAt a b m i.toNat := by
        unfold mixAt
        rw [show ((i.toNat : Nat) : Int) = i by omega, hn]
        rfl
      have st : ∀ j : Nat, aSet i j (byteAt b i.toNat) (if (j : Int) < i then mixAt a b m j else byteAt a j) = if (j : Int) < i + 1 then mixAt a b m j else byteAt a j := fun j => aSet_if (F := mixAt a b m) (G := byteAt a) h1 hv
      rw [st 0, st 1, st 2, st 3, st 4, st 5, st 6, st 7]
    · have hv : mixAt a b m i.toNat = byteAt a i.toNat := by
        unfold mixAt
        rw [show ((i.toNat : Nat) : Int) = i by omega, hn]
        rfl
      have st : ∀ j : Nat, (if (j : Int) < i then mixAt a b m j else byteAt a j) = if (j : Int) < i + 1 then mixAt a b m j else byteAt a j := fun j => if_step (F := mixAt a b m) (G := byteAt a) hv h1
      rw [st 0, st 1, st 2, st 3, st 4, st 5, st 6, st 7]
    · have : i = 8 := by omega
      subst this
      refine ⟨⟨rfl, rfl, ?_⟩, ends_int rfl ?_⟩
      · intro x hx
        simp at hx
        rcases hx with rfl | rfl | rfl | rfl | rfl | rfl | rfl | rfl <;> exact mixAt_range _ _ _ _
      · rfl

end Go.AM.Ytlahjnelghpmeaa
