import Derived.Test.YthokdjgpdonhgaaQD4
import Derived.Test.YthokdjgpdonhgaaVB07
set_option linter.unusedSimpArgs false
set_option linter.unusedVariables false
namespace Go.AM.Ythokdjgpdonhgaa
open Go.AM

mutual
def depthT : Tree → Int
  | .mk k _ ks => if k = 0 ∨ k = 10 then 0 else depthK ks 1
def depthK : List Tree → Int → Int
  | [], n => n
  | t :: r, n => depthK r (if n < depthT t + 1 then depthT t + 1 else n)
end

mutual
theorem depthT_le : ∀ (t : Tree) (d : Int), 0 ≤ d → rightT t d = true → 0 ≤ depthT t ∧ depthT t ≤ d
  | .mk k w ks, d, h0, h => by
    rw [depthT]
    split
    · omega
    · rename_i hk
      rw [rightT, if_neg (fun e => hk (.inl e)), if_neg (fun e => hk (.inr e))] at h
      split at h
      · cases h
      · rename_i hd
        have hr : ∃ i, rightK i ks (d - 1) = true := by
          split at h
          · exact ⟨1, (Bool.and_eq_true _ _ ▸ h).2⟩
          · exact ⟨k, (Bool.and_eq_true _ _ ▸ h).2⟩
        obtain ⟨i, hr⟩ := hr
        have := depthK_le i ks d 1 (by omega) (by omega) (by omega) hr
        omega
theorem depthK_le (i : Int) : ∀ (ks : List Tree) (d n : Int), 1 ≤ d → 0 ≤ n → n ≤ d → rightK i ks (d - 1) = true → n ≤ depthK ks n ∧ depthK ks n ≤ d
  | [], d, n, h0, h1, h2, h => by rw [depthK]; omega
  | t :: r, d, n, h0, h1, h2, h => by
    rw [rightK] at h
    have h' := (Bool.and_eq_true _ _ ▸ h)
    have h3 := (Bool.and_eq_true _ _ ▸ h'.1)
    have h4 := depthT_le t (d - 1) (by omega) h3.2
    rw [depthK]
    have := depthK_le i r d (if n < depthT t + 1 then depthT t + 1 else n) h0 (by split <;> omega) (by split <;> omega) h'.2
    split at this <;> split <;> omega
end

mutual
theorem rightT_mono : ∀ (t : Tree) (d e : Int), 0 ≤ d → d ≤ e → rightT t d = true → rightT t e = true
  | .mk k w ks, d, e, h0, h1, h => by
    rw [rightT] at h ⊢
    split
    · rename_i h2; rw [if_pos h2] at h; exact h
    · rename_i h2; rw [if_neg h2] at h
      split
      · rename_i h3; rw [if_pos h3] at h; exact h
      · rename_i h3; rw [if_neg h3] at h
        by_cases hd : d = 0
        · rw [if_pos hd] at h; cases h
        · rw [if_neg hd] at h; rw [if_neg (show ¬ e = 0 by omega)]
          split
          · rename_i h4; rw [if_pos h4] at h
            have h' := (Bool.and_eq_true _ _ ▸ h)
            exact (Bool.and_eq_true _ _).symm ▸ ⟨h'.1, rightK_mono 1 ks (d - 1) (e - 1) (by omega) (by omega) h'.2⟩
          · rename_i h4; rw [if_neg h4] at h
            have h' := (Bool.and_eq_true _ _ ▸ h)
            exact (Bool.and_eq_true _ _).symm ▸ ⟨h'.1, rightK_mono k ks (d - 1) (e - 1) (by omega) (by omega) h'.2⟩
theorem rightK_mono (i : Int) : ∀ (ks : List Tree) (d e : Int), 0 ≤ d → d ≤ e → rightK i ks d = true → rightK i ks e = true
  | [], _, _, _, _, _ => by rw [rightK]
  | t :: r, d, e, h0, h1, h => by
    rw [rightK] at h ⊢
    have h' := (Bool.and_eq_true _ _ ▸ h)
    have h3 := (Bool.and_eq_true _ _ ▸ h'.1)
    exact (Bool.and_eq_true _ _).symm ▸ ⟨(Bool.and_eq_true _ _).symm ▸ ⟨h3.1, rightT_mono t d e h0 h1 h3.2⟩, rightK_mono i r d e h0 h1 h'.2⟩
end

mutual
theorem mass_weight : ∀ (t : Tree) (d : Int), rightT t d = true → (mass t : Int) ≤ 2 * weight t + (if t.kind = 0 then 1 else 0)
  | .mk k w ks, d, h => by
    rw [rightT] at h
    show (mass (.mk k w ks) : Int) ≤ _ + (if k = 0 then 1 else 0)
    rw [mass, weight]
    split at h
    · rename_i hk
      have := of_decide_eq_true h
      rw [if_pos hk, if_pos hk, this.1, List.length_eq_zero_iff.1 this.2, massK]
      omega
    · rename_i hk
      rw [if_neg hk, if_neg hk]
      split at h
      · rename_i hk
        have := of_decide_eq_true h
        rw [if_neg (by omega), if_neg (by omega), this.1, List.length_eq_zero_iff.1 this.2, massK, weightK]
        omega
      · split at h
        · cases h
        · split at h
          · rename_i h1
            have h' := (Bool.and_eq_true _ _ ▸ h)
            have := massK_weight 1 ks (d - 1) h'.2
            rw [if_pos h1]
            rw [if_neg (by omega)] at this
            omega
          · rename_i h1
            have h' := (Bool.and_eq_true _ _ ▸ h)
            have := massK_weight k ks (d - 1) h'.2
            have hw := of_decide_eq_true h'.1
            rw [if_neg h1]
            split
            · rename_i h8
              rw [if_neg (by omega)] at this
              omega
            · rename_i h8
              rw [if_pos (by omega)] at this
              omega
theorem massK_weight (i : Int) : ∀ (ks : List Tree) (d : Int), rightK i ks d = true → (massK ks : Int) ≤ 2 * weightK ks + (if 2 ≤ i ∧ i ≤ 7 ∨ i = 9 then 0 else (ks.length : Int))
  | [], _, _ => by rw [massK, weightK]; split <;> simp
  | t :: r, d, h => by
    rw [rightK] at h
    have h' := (Bool.and_eq_true _ _ ▸ h)
    have h3 := (Bool.and_eq_true _ _ ▸ h'.1)
    have h4 := mass_weight t d h3.2
    have h5 := massK_weight i r d h'.2
    rw [massK, weightK, List.length_cons]
    split
    · rename_i hi
      rw [if_pos hi] at h5
      have hk : t.kind ≠ 0 := by
        intro e
        have := h3.1
        unfold kidB at this
        split at this
        · have := (of_decide_eq_true (Bool.and_eq_true _ _ ▸ this).1); omega
        · rw [if_pos (by omega)] at this
          have := of_decide_eq_true this; omega
      rw [if_neg hk] at h4
      omega
    · rename_i hi
      rw [if_neg hi] at h5
      split at h4 <;> omega
end

theorem wordsX_rng {l : List (List Int)} (hl : okSeg l) {x : XRef} (hx : OkX l x) : (∀ y ∈ wordsX l x, 0 ≤ y ∧ y < 18446744073709551616) ∧ ((wordsX l x).length : Int) = (if x.kind = 10 then 1 else if x.kind = 1 then x.data else 0) := by
  unfold wordsX
  split
  · refine ⟨fun y hy => ?_, rfl⟩
    rw [List.mem_singleton.1 hy]; exact hx.n
  · split
    · rename_i h1
      refine ⟨fun y hy => (okSeg_at hl x.s).2 y (List.mem_of_mem_drop (List.mem_of_mem_take hy)), ?_⟩
      have := hasN_iff.1 (hx.one h1)
      have := hx.data
      have := hx.ptrs
      have := hx.at_
      rw [List.length_take, List.length_drop]
      omega
    · exact ⟨fun y hy => (by cases hy), rfl⟩

theorem getW_fits {l : List Int} (h : ∀ x ∈ l, 0 ≤ x ∧ x < 18446744073709551616) (c i : Int) (hc : 0 ≤ c ∧ c ≤ 5) : fits c (getW l c i) = true := by
  have hw : 0 ≤ wd c := by
    unfold wd; repeat' split
    all_goals omega
  refine decide_eq_true ⟨hw, ?_⟩
  unfold getW
  split
  · exact Int.pow_pos (by decide)
  · exact Int.emod_lt_of_pos _ (Int.pow_pos (by decide))

theorem loopM_all {f : Int → Int → Tree × Int × Int} {P : Tree → Prop} {N c : Int}
    (hf : ∀ i left, 0 ≤ i → i < N → 0 ≤ left → left ≤ 65536 → (f i left).2.2 = 0 → P (f i left).1 ∧ 0 ≤ (f i left).2.1 ∧ (f i left).2.1 ≤ left ∧ weight (f i left).1 = left - (f i left).2.1 + c) :
    ∀ (n : Nat) (i left : Int) (acc : List Tree), 0 ≤ i → i + n ≤ N → 0 ≤ left → left ≤ 65536 → (loopM f n i left acc).2.2 = 0 →
      ∃ ks, (loopM f n i left acc).1 = acc ++ ks ∧ ks.length = n ∧ (∀ k ∈ ks, P k) ∧ 0 ≤ (loopM f n i left acc).2.1 ∧ (loopM f n i left acc).2.1 ≤ left ∧ weightK ks = left - (loopM f n i left acc).2.1 + n * c
  | 0, i, left, acc, _, _, h0, _, _ => ⟨[], by simp [loopM, weightK]; exact h0⟩
  | n + 1, i, left, acc, hi, hn, h0, h9, he => by
    simp only [loopM] at he ⊢
    by_cases h1 : (f i left).2.2 = 0
    · rw [if_pos h1] at he ⊢
      obtain ⟨p1, p2, p4, p3⟩ := hf i left hi (by omega) h0 h9 h1
      obtain ⟨ks, q1, q2, q3, q4, q6, q5⟩ := loopM_all hf n (i + 1) (f i left).2.1 (acc ++ [(f i left).1]) (by omega) (by omega) p2 (by omega) he
      refine ⟨(f i left).1 :: ks, by rw [q1]; simp, by simp [q2], ?_, q4, by omega, ?_⟩
      · intro k hk
        rcases List.mem_cons.1 hk with rfl | hk
        · exact p1
        · exact q3 k hk
      · rw [weightK, q5, p3]
        rw [Int.natCast_add, Int.add_mul]
        omega
    · rw [if_neg h1] at he
      exact absurd he h1

theorem rightK_of {i : Int} {d : Int} : ∀ {ks : List Tree}, (∀ k ∈ ks, kidB i k = true ∧ rightT k d = true) → rightK i ks d = true
  | [], _ => by rw [rightK]
  | t :: r, h => by
    rw [rightK, (h t (List.mem_cons_self ..)).1, (h t (List.mem_cons_self ..)).2, rightK_of (ks := r) fun k hk => h k (List.mem_cons_of_mem _ hk)]
    rfl

theorem rngK_of : ∀ {ks : List Tree}, (∀ k ∈ ks, rng k) → rngK ks
  | [], _ => trivial
  | t :: r, h => ⟨h t (List.mem_cons_self ..), rngK_of (ks := r) fun k hk => h k (List.mem_cons_of_mem _ hk)⟩

def GoodM (l : List (List Int)) (m : XRef → Int → Tree × Int × Int) (d : Int) : Prop :=
  ∀ x left, OkX l x → 0 ≤ left → left ≤ 65536 → (m x left).2.2 = 0 →
    (m x left).1.kind = x.kind ∧ rightT (m x left).1 d = true ∧ rng (m x left).1 ∧ 0 ≤ (m x left).2.1 ∧ weight (m x left).1 = left - (m x left).2.1

theorem kidX_kind {l : List (List Int)} (hl : okSeg l) (s a : Int) : (refAt l s a).1.kind ≠ 10 := by
  have hp := (okL_follow hl s a).p
  have hk := (okL_follow hl s a).kind
  have hc := hp.code
  unfold refAt
  split
  · simp [xz]
  · split
    · simp
    · split
      · show 2 + _ ≠ _; omega
      · unfold compX
        split <;> simp [xz]

theorem kidB_at {l : List (List Int)} (hl : okSeg l) {x : XRef} {i k : Int} (hk : x.kind = 1 ∨ x.kind = 8) (h1 : ¬(2 ≤ k ∧ k ≤ 7)) (h9 : k ≠ 9) {t : Tree} (ht : t.kind = (kidX l x i).1.kind) : kidB k t = true := by
  unfold kidB
  rw [if_neg h1, if_neg h9]
  refine decide_eq_true ?_
  rw [ht]
  unfold kidX
  split
  · simp [xz]
  · rcases hk with e | e
    · rw [if_pos e]; exact kidX_kind hl _ _
    · rw [if_neg (by omega), if_pos e]; exact kidX_kind hl _ _

theorem kidsM_good {l : List (List Int)} (hl : okSeg l) {m : XRef → Int → Tree × Int × Int} {d : Int} (hd : 0 ≤ d) (hm : GoodM l m d) {x : XRef} (hx : OkX l x) (h1 : x.kind = 1) (left : Int) (h0 : 0 ≤ left) (h9 : left ≤ 65536) (he : (kidsM l m x left).2.2 = 0) :
    (kidsM l m x left).1.kind = 1 ∧ rightT (kidsM l m x left).1 (d + 1) = true ∧ rng (kidsM l m x left).1 ∧ 0 ≤ (kidsM l m x left).2.1 ∧ (kidsM l m x left).2.1 ≤ left ∧ weight (kidsM l m x left).1 = left - (kidsM l m x left).2.1 + (1 + x.data + x.ptrs) := by
  have hw := wordsX_rng hl hx
  rw [if_neg (by omega), if_pos h1] at hw
  have hdt := hx.data
  have hpt := hx.ptrs
  unfold kidsM at he ⊢
  obtain ⟨ks, q1, q2, q3, q4, q6, q5⟩ := loopM_all (P := fun k => (kidB 1 k = true ∧ rightT k d = true) ∧ rng k) (N := x.ptrs) (c := 0) (f := fun j left => if (kidX l x j).2 = 0 then m (kidX l x j).1 left else (Tree.nil, left, (kidX l x j).2)) (by
    intro i left hi hn h0 h9 he
    by_cases h2 : (kidX l x i).2 = 0
    · simp only [h2, if_true] at he ⊢
      obtain ⟨g1, g2, g3, g4, g5⟩ := hm _ _ (okX_kid hl hx i) h0 h9 he
      have := (weight_range (m (kidX l x i).1 left).1).1
      exact ⟨⟨⟨kidB_at hl (.inl h1) (by omega) (by omega) g1, g2⟩, g3⟩, g4, by omega, by rw [g5, Int.add_zero]⟩
    · simp only [h2, if_false] at he) x.ptrs.toNat 0 left [] (by omega) (by omega) h0 h9 he
  dsimp only at q1 q4 q5 q6 ⊢
  rw [q1, List.nil_append]
  refine ⟨rfl, ?_, ?_, q4, q6, ?_⟩
  · rw [rightT, if_neg (by omega), if_neg (by omega), if_neg (by omega), if_pos rfl, show d + 1 - 1 = d by omega, rightK_of fun k hk => (q3 k hk).1]
    refine (Bool.and_eq_true _ _).symm ▸ ⟨decide_eq_true ⟨by omega, by omega⟩, rfl⟩
  · exact ⟨⟨by omega, by omega⟩, hw.1, rngK_of fun k hk => (q3 k hk).2⟩
  · rw [weight, if_neg (by omega), if_pos rfl, q5]
    omega

theorem stepM_good {l : List (List Int)} (hl : okSeg l) {d : Nat} {m m' : XRef → Int → Tree × Int × Int} (hm : 1 ≤ d → GoodM l m ((d : Int) - 1)) (hm' : 2 ≤ d → GoodM l m' ((d : Int) - 2)) : GoodM l (stepM l d m m') d := by
  intro x left hx h0 h9 he
  have hw := wordsX_rng hl hx
  have hdt := hx.data
  have hpt := hx.ptrs
  have hk := hx.kind
  have hc := hx.count
  unfold stepM at he ⊢
  by_cases hk0 : x.kind = 0
  · rw [if_neg (by omega), if_neg (by omega)] at hw
    have e : wordsX l x = [] := List.length_eq_zero_iff.1 (by omega)
    rw [if_pos hk0, e]
    refine ⟨hk0.symm, ?_, ?_, h0, ?_⟩
    · rw [rightT, if_pos rfl]; rfl
    · exact ⟨⟨by omega, by omega⟩, fun y hy => (by cases hy), trivial⟩
    · show weight ⟨0, [], []⟩ = left - left
      rw [weight, if_pos rfl]; omega
  · rw [if_neg hk0] at he ⊢
    by_cases hq : d = 0 ∨ (x.kind = 9 ∧ 0 < x.count ∧ d < 2) ∨ left < ownX x
    · rw [if_pos hq] at he; cases he
    · rw [if_neg hq] at he ⊢
      have hown := ownX_pos hx
      have hkx := kidsX_le hx
      -- the kids
      have key : ∃ c : Int, ownX x = 1 + (if x.kind = 1 then x.data + kidsX x else if x.kind = 8 then kidsX x else 0) + kidsX x * c ∧
          ∀ i left, 0 ≤ i → i < kidsX x → 0 ≤ left → left ≤ 65536 → (kidM l m m' x i left).2.2 = 0 →
            ((kidB x.kind (kidM l m m' x i left).1 = true ∧ rightT (kidM l m m' x i left).1 ((d : Int) - 1) = true) ∧ rng (kidM l m m' x i left).1) ∧ 0 ≤ (kidM l m m' x i left).2.1 ∧ (kidM l m m' x i left).2.1 ≤ left ∧
            weight (kidM l m m' x i left).1 = left - (kidM l m m' x i left).2.1 + c := by
        by_cases h18 : x.kind = 1 ∨ x.kind = 8
        · refine ⟨0, ?_, ?_⟩
          · unfold ownX kidsX
            rcases h18 with e | e
            · rw [if_pos e, if_pos e, if_pos e]; omega
            · rw [if_neg (by omega), if_neg (by omega), if_neg (by omega), if_pos e, if_neg (by omega)]; omega
          · intro i left hi hn h0 h9 he
            unfold kidM at he ⊢
            by_cases h2 : (kidX l x i).2 = 0
            · rw [if_pos h2, if_neg (by omega), if_pos h18] at he ⊢
              obtain ⟨g1, g2, g3, g4, g5⟩ := hm (by omega) _ _ (okX_kid hl hx i) h0 h9 he
              have := (weight_range (m (kidX l x i).1 left).1).1
              exact ⟨⟨⟨kidB_at hl h18 (by omega) (by omega) g1, g2⟩, g3⟩, g4, by omega, by rw [g5, Int.add_zero]⟩
            · rw [if_neg h2] at he; exact absurd he h2
        · by_cases h99 : x.kind = 9
          · refine ⟨1 + x.data + x.ptrs, ?_, ?_⟩
            · unfold ownX kidsX
              rw [if_neg (by omega), if_pos h99, if_neg (by omega), if_neg (by omega), if_neg (by omega)]; omega
            · intro i left hi hn h0 h9 he
              have e : kidsX x = x.count := by unfold kidsX; rw [if_neg (by omega)]
              have ek : kidX l x i = (⟨1, x.s, x.at_ + i * (x.data + x.ptrs), x.data, x.ptrs, 0, 0⟩, 0) := by
                unfold kidX; rw [if_neg (by omega), if_neg (by omega), if_neg (by omega), if_pos h99]
              have hkk := okX_kid hl hx i
              unfold kidM at he ⊢
              rw [ek] at he hkk ⊢
              rw [if_pos rfl, if_pos h99] at he ⊢
              obtain ⟨g1, g2, g3, g4, g6, g5⟩ := kidsM_good hl (d := (d : Int) - 2) (by omega) (hm' (by omega)) hkk rfl left h0 h9 he
              refine ⟨⟨⟨?_, by rw [show (d : Int) - 1 = d - 2 + 1 by omega]; exact g2⟩, g3⟩, g4, g6, g5⟩
              unfold kidB
              rw [if_neg (by omega), if_pos h99]
              exact decide_eq_true g1
          · refine ⟨1, ?_, ?_⟩
            · unfold ownX kidsX
              rw [if_neg (by omega), if_neg h99, if_neg (by omega), if_neg (by omega), if_neg (by omega)]; omega
            · intro i left hi hn h0 h9 he
              have e : kidsX x = x.count := by unfold kidsX; rw [if_neg (by omega)]
              have hz := hx.zero
              have ek : kidX l x i = (⟨10, 0, 0, 0, 0, 0, getW ((segAt l x.s).drop x.at_.toNat) (x.kind - 2) i⟩, 0) := by
                unfold kidX; rw [if_neg (by omega), if_neg (by omega), if_neg (by omega), if_neg (by omega)]
              have hkk := okX_kid hl hx i
              rw [ek] at hkk
              have em : kidM l m m' x i left = (⟨10, [getW ((segAt l x.s).drop x.at_.toNat) (x.kind - 2) i], []⟩, left, 0) := by
                unfold kidM
                rw [ek, if_pos rfl, if_neg h99, if_neg h18]
                rfl
              rw [em]
              refine ⟨⟨⟨?_, ?_⟩, ⟨by omega, by omega⟩, ?_, trivial⟩, h0, Int.le_refl _, ?_⟩
              · unfold kidB
                rw [if_pos (by omega)]
                refine (Bool.and_eq_true _ _).symm ▸ ⟨decide_eq_true ⟨rfl, rfl, rfl⟩, ?_⟩
                exact getW_fits (fun y hy => (okSeg_at hl x.s).2 y (List.mem_of_mem_drop hy)) _ _ (by omega)
              · rw [rightT, if_neg (by omega), if_pos rfl]; rfl
              · exact (wordsX_rng hl hkk).1
              · show weight ⟨10, _, []⟩ = left - left + 1
                rw [weight, if_neg (by omega), if_neg (by omega), if_neg (by omega), weightK]; omega
      obtain ⟨c, hc1, hc2⟩ := key
      obtain ⟨ks, q1, q2, q3, q4, q6, q5⟩ := loopM_all (P := fun k => (kidB x.kind k = true ∧ rightT k ((d : Int) - 1) = true) ∧ rng k) (N := kidsX x) hc2 (kidsX x).toNat 0 (left - ownX x) [] (by omega) (by omega) (by omega) (by omega) he
      dsimp only
      rw [q1, List.nil_append]
      rw [Int.toNat_of_nonneg hkx.1] at q5
      have q2' : (ks.length : Int) = kidsX x := by rw [q2, Int.toNat_of_nonneg hkx.1]
      refine ⟨rfl, ?_, ⟨⟨by omega, by omega⟩, hw.1, rngK_of fun k hk => (q3 k hk).2⟩, q4, ?_⟩
      · rw [rightT, if_neg hk0]
        split
        · rename_i h10
          rw [if_pos h10] at hw
          have := hx.zero (.inr h10)
          have e : kidsX x = 0 := by unfold kidsX; rw [if_neg (by omega)]; exact this
          exact decide_eq_true ⟨by omega, by omega⟩
        · rename_i h10
          rw [if_neg h10] at hw
          rw [if_neg (by omega)]
          have hr := rightK_of fun k hk => (q3 k hk).1
          split
          · rename_i h1
            rw [if_pos h1] at hw
            rw [h1] at hr
            rw [hr]
            have e : kidsX x = x.ptrs := by unfold kidsX; rw [if_pos h1]
            exact (Bool.and_eq_true _ _).symm ▸ ⟨decide_eq_true ⟨by omega, by omega⟩, rfl⟩
          · rename_i h1
            rw [if_neg h1] at hw
            rw [hr]
            exact (Bool.and_eq_true _ _).symm ▸ ⟨decide_eq_true ⟨by omega, by omega, by omega, by omega⟩, rfl⟩
      · rw [weight, if_neg hk0, q5, q2', hc1]
        split
        · rename_i h1
          rw [if_neg (by omega), if_pos h1] at hw
          omega
        · omega

theorem mean_good {l : List (List Int)} (hl : okSeg l) : ∀ d : Nat, GoodM l (mean l d) d := by
  intro d
  induction d using Nat.strongRecOn with
  | ind d ih =>
    match d with
    | 0 => exact stepM_good hl (fun h => absurd h (by decide)) (fun h => absurd h (by decide))
    | 1 => exact stepM_good hl (fun _ => ih 0 (by omega)) (fun h => absurd h (by decide))
    | d + 2 =>
      refine stepM_good hl (fun _ => ?_) (fun _ => ?_)
      · have := ih (d + 1) (by omega)
        rw [show ((d + 2 : Nat) : Int) - 1 = ((d + 1 : Nat) : Int) by omega]
        exact this
      · have := ih d (by omega)
        rw [show ((d + 2 : Nat) : Int) - 2 = ((d : Nat) : Int) by omega]
        exact this

end Go.AM.Ythokdjgpdonhgaa

namespace Go.AM.Ythokdjgpdonhgaa
open Go.AM Go.Proofs

def args58 : ArgL (Int × Int × Unit) := (.cons (aInt .i64) (.cons (aInt .u64) .nil))
def pre58 (a : Int × Int × Unit) : Prop := 0 ≤ a.2.1 ∧ a.2.1 < 18446744073709551616
noncomputable def res58 (a : Int × Int × Unit) : V U := .c (.bool (fits a.1 a.2.1))
noncomputable def spec58 : Fs U := fs args58 (fun a => [pre58 a]) res58

def mu94 (a : Tree × Int × Unit) : Nat := mass a.1
def args43 : ArgL (Tree × Int × Unit) := (.cons (aEl .tree) (.cons (aInt .i64) .nil))
def pre43 (a : Tree × Int × Unit) : Prop := mass a.1 ≤ 1000000 ∧ rng a.1 ∧ 0 ≤ a.2.1 ∧ a.2.1 ≤ 1000
def mu43 (a : Tree × Int × Unit) : Nat := mass a.1
noncomputable def res43 (a : Tree × Int × Unit) : V U := .c (.bool (rightT a.1 a.2.1))
noncomputable def spec43 : Fs U := fs args43 (fun a => [pre43 a]) res43

noncomputable def know58 : List (FuncId × Fs U) := [(56, spec56)]
def lv58 : Lives U := fun i => match i with
  | 0 => ([(0, []), (1, [])], [])
  | 1 => ([(1, []), (5, [])], [])
  | 2 => ([(1, []), (5, []), (10, [])], [])
  | 3 => ([(4, [])], [])
  | 4 => ([(1, []), (5, []), (6, [])], [])
  | 5 => ([(1, []), (5, []), (6, []), (13, [])], [])
  | 6 => ([(1, []), (5, []), (6, [])], [])
  | 7 => ([(1, []), (5, []), (6, [])], [])
  | 8 => ([(4, [])], [])
  | _ => ([], [])
def head58_0 (c : Int) (n : Int) (x1 : Int) (x6 : Int) : LSt U := (⟨[(1, .c (.int .u64 x1)), (5, .c (.int .i64 (wd c))), (6, .c (.int .i64 x6))], [], []⟩ : LSt U)
theorem vc58 (c : Int) (n : Int) (Q : AExit → LSt U → Prop) (h : (pre56 (c, ())) ∧ (((decide (((wd c) : Int) < 0)) = true → Q .ret (⟨[(4, .c (.bool false))], [], []⟩ : LSt U)) ∧ ((decide (((wd c) : Int) < 0)) = false → LoopWp (awp cfg (know know58) (drawOk cfg (know know58)) Try.f58.ntmps lv58 (cd Try.f58 [1, 1, 1, 0, 1, 0, 0])) (head58_0 c n n 0) (AExit.inBlock 0 (seqK cfg (know know58) (drawOk cfg (know know58)) Try.f58.ntmps lv58 (cd Try.f58 [1, 1, 1, 1]) Q))))) :
    awp cfg (know know58) (drawOk cfg (know know58)) Try.f58.ntmps lv58 (cd Try.f58 []) (⟨[(0, .c (.int .i64 c)), (1, .c (.int .u64 n))], [], []⟩ : LSt U) Q := by
  have e : (awp cfg (know know58) (drawOk cfg (know know58)) Try.f58.ntmps lv58 (cd Try.f58 []) (⟨[(0, .c (.int .i64 c)), (1, .c (.int .u64 n))], [], []⟩ : LSt U) Q) = (((pre56 (c, ())) ∧ ((((decide (((wd c) : Int) < 0)) = true → (Q .ret (⟨[(4, .c (.bool false))], [], []⟩ : LSt U))) ∧ ((decide (((wd c) : Int) < 0)) = false → (LoopWp (awp cfg (know know58) (drawOk cfg (know know58)) Try.f58.ntmps lv58 (cd Try.f58 [1, 1, 1, 0, 1, 0, 0])) (head58_0 c n n 0) (AExit.inBlock 0 (seqK cfg (know know58) (drawOk cfg (know know58)) Try.f58.ntmps lv58 (cd Try.f58 [1, 1, 1, 1]) Q)))))))) := by kernel_rfl
  exact e.mpr ⟨h.1, ⟨fun c_7 => (h.2.1 c_7), fun c_7 => (h.2.2 c_7)⟩⟩
theorem vc58_l0 (c : Int) (n : Int) (x1 : Int) (x6 : Int) (N0 : LSt U → Prop) (Q : AExit → LSt U → Prop) (h : ((decide ((x6 : Int) < (wd c))) = true → ((2 : Int) ≠ 0) ∧ ((InR ((x6 : Int) + 1)) ∧ (N0 (head58_0 c n (IntKind.wrap .u64 (Int.tdiv x1 2)) ((x6 : Int) + 1))))) ∧ ((decide ((x6 : Int) < (wd c))) = false → Q .ret (⟨[(4, .c (.bool ((x1 : Int) == 0)))], [], []⟩ : LSt U))) :
    awp cfg (know know58) (drawOk cfg (know know58)) Try.f58.ntmps lv58 (cd Try.f58 [1, 1, 1, 0, 1, 0, 0]) (head58_0 c n x1 x6) (AExit.then N0 (AExit.inBlock 0 (seqK cfg (know know58) (drawOk cfg (know know58)) Try.f58.ntmps lv58 (cd Try.f58 [1, 1, 1, 1]) Q))) := by
  have e : (awp cfg (know know58) (drawOk cfg (know know58)) Try.f58.ntmps lv58 (cd Try.f58 [1, 1, 1, 0, 1, 0, 0]) (head58_0 c n x1 x6) (AExit.then N0 (AExit.inBlock 0 (seqK cfg (know know58) (drawOk cfg (know know58)) Try.f58.ntmps lv58 (cd Try.f58 [1, 1, 1, 1]) Q)))) = ((((decide ((x6 : Int) < (wd c))) = true → ((2 : Int) ≠ 0) ∧ ((InR ((x6 : Int) + 1)) ∧ (N0 (head58_0 c n (IntKind.wrap .u64 (Int.tdiv x1 2)) ((x6 : Int) + 1))))) ∧ ((decide ((x6 : Int) < (wd c))) = false → (Q .ret (⟨[(4, .c (.bool ((x1 : Int) == 0)))], [], []⟩ : LSt U))))) := by kernel_rfl
  exact e.mpr ⟨fun c_8 => ⟨(h.1 c_8).1, ⟨(h.1 c_8).2.1, (h.1 c_8).2.2⟩⟩, fun c_8 => (h.2 c_8)⟩
def Body58 (c : Int) (n : Int)  : Prop := awp cfg (know (know58)) (drawOk cfg (know (know58))) Try.f58.ntmps lv58 (cd Try.f58 []) (entry (args58.can (c, n, ())) []) (EndsQ cfg Try.f58.ntmps Try.f58.results.toList (res58 (c, n, ())) [])
theorem make58 (c56 : Contract Try.prog cfg 56 spec56) (hb : ∀ (c : Int) (n : Int) (_ : Unit), pre58 (c, n, ()) → Body58 c n) : Contract Try.prog cfg 58 spec58 :=
  contract_flat (l := [(56, spec56)]) cfgOk rfl (⟨c56, trivial⟩) lv58 Try.func58 rfl rfl 2 (fun _ => rfl) (by decide) (fun ⟨c, n, _⟩ => hb c n ())

noncomputable def know43 (N : Nat) : List (FuncId × Fs U) := (43, fs args43 (fun a => [pre43 a, mu43 a < N]) res43) :: [(58, spec58)]
def lv43 : Lives U := fun i => match i with
  | 0 => ([(1, []), (2, [])], [((.loc 2), [])])
  | 1 => ([(1, []), (2, []), (10, [])], [((.loc 2), [])])
  | 2 => ([(4, [])], [])
  | 3 => ([(1, []), (2, []), (23, [])], [((.loc 2), [])])
  | 4 => ([(4, [])], [])
  | 5 => ([(1, []), (2, []), (68, [])], [((.loc 2), [])])
  | 6 => ([(4, [])], [])
  | 7 => ([(1, []), (2, []), (77, [])], [((.loc 2), [])])
  | 8 => ([(4, [])], [])
  | 9 => ([(1, []), (2, []), (5, [])], [((.loc 2), [])])
  | 10 => ([(1, []), (2, []), (5, []), (82, [])], [((.loc 2), [])])
  | 11 => ([(1, []), (2, []), (5, [])], [((.loc 2), [])])
  | 12 => ([(1, []), (2, []), (5, []), (6, [])], [((.loc 2), []), ((.loc 6), [])])
  | 13 => ([(1, []), (2, []), (5, []), (6, []), (94, [])], [((.loc 2), []), ((.loc 6), [])])
  | 14 => ([(4, [])], [])
  | 15 => ([(1, []), (2, []), (5, []), (6, []), (7, [])], [((.loc 2), []), ((.loc 6), [])])
  | 16 => ([(1, []), (2, []), (5, []), (131, [])], [((.loc 2), [])])
  | 17 => ([(4, [])], [])
  | 18 => ([(4, [])], [])
  | _ => ([], [])
def head43_0 (t : Tree) (d : Int) (x5 : Int) : LSt U := (⟨[(1, .c (.int .i64 d)), (2, .ptr (.loc 2) 0), (5, .c (.int .i64 x5))], [((.loc 2), [.int .i64 (Tree.kind t), .slice (U := U) .u64 (Tree.words t) .unk, .slice (U := U) .tree (Tree.kids t) .unk])], []⟩ : LSt U)
theorem vc43 (N : Nat) (t : Tree) (d : Int) (Q : AExit → LSt U → Prop) (h : ((((Tree.kind t) : Int) == 0) = true → Q .ret (⟨[(4, .c (.bool (bif ((((Tree.words t).length : Int) : Int) == 0) then ((((Tree.kids t).length : Int) : Int) == 0) else false)))], [], []⟩ : LSt U)) ∧ ((((Tree.kind t) : Int) == 0) = false → ((((Tree.kind t) : Int) == 10) = true → Q .ret (⟨[(4, .c (.bool (bif ((((Tree.words t).length : Int) : Int) == 1) then ((((Tree.kids t).length : Int) : Int) == 0) else false)))], [], []⟩ : LSt U)) ∧ ((((Tree.kind t) : Int) == 10) = false → ((bif (bif (bif (bif (bif (decide (((Tree.kind t) : Int) < 0)) then true else (decide ((10 : Int) < (Tree.kind t)))) then true else ((d : Int) == 0)) then true else (decide ((65536 : Int) ≤ ((Tree.words t).length : Int)))) then true else (bif (((Tree.kind t) : Int) == 1) then (decide ((65536 : Int) ≤ ((Tree.kids t).length : Int))) else false)) then true else (decide ((1048576 : Int) ≤ ((Tree.kids t).length : Int)))) = true → Q .ret (⟨[(4, .c (.bool false))], [], []⟩ : LSt U)) ∧ ((bif (bif (bif (bif (bif (decide (((Tree.kind t) : Int) < 0)) then true else (decide ((10 : Int) < (Tree.kind t)))) then true else ((d : Int) == 0)) then true else (decide ((65536 : Int) ≤ ((Tree.words t).length : Int)))) then true else (bif (((Tree.kind t) : Int) == 1) then (decide ((65536 : Int) ≤ ((Tree.kids t).length : Int))) else false)) then true else (decide ((1048576 : Int) ≤ ((Tree.kids t).length : Int)))) = false → ((bif (decide ((1 : Int) < (Tree.kind t))) then (decide ((0 : Int) < ((Tree.words t).length : Int))) else false) = true → Q .ret (⟨[(4, .c (.bool false))], [], []⟩ : LSt U)) ∧ ((bif (decide ((1 : Int) < (Tree.kind t))) then (decide ((0 : Int) < ((Tree.words t).length : Int))) else false) = false → LoopWp (awp cfg (know (know43 N)) (drawOk cfg (know (know43 N))) Try.f43.ntmps lv43 (cd Try.f43 [1, 1, 1, 1, 1, 0, 1, 0, 0])) (head43_0 t d 0) (AExit.inBlock 0 (seqK cfg (know (know43 N)) (drawOk cfg (know (know43 N))) Try.f43.ntmps lv43 (cd Try.f43 [1, 1, 1, 1, 1, 1]) Q))))))) :
    awp cfg (know (know43 N)) (drawOk cfg (know (know43 N))) Try.f43.ntmps lv43 (cd Try.f43 []) (⟨[(0, .agg [.int .i64 (Tree.kind t), .slice (U := U) .u64 (Tree.words t) .unk, .slice (U := U) .tree (Tree.kids t) .unk]), (1, .c (.int .i64 d))], [], []⟩ : LSt U) Q := by
  have e : (awp cfg (know (know43 N)) (drawOk cfg (know (know43 N))) Try.f43.ntmps lv43 (cd Try.f43 []) (⟨[(0, .agg [.int .i64 (Tree.kind t), .slice (U := U) .u64 (Tree.words t) .unk, .slice (U := U) .tree (Tree.kids t) .unk]), (1, .c (.int .i64 d))], [], []⟩ : LSt U) Q) = (((((((Tree.kind t) : Int) == 0) = true → (((((Tree.words t).length : Int) : Int) == 0) = true → ((((Tree.words t).length : Int) : Int) == 0) = true) ∧ (((((Tree.words t).length : Int) : Int) == 0) = true → ((((Tree.words t).length : Int) : Int) == 0) = true) ∧ (((((Tree.words t).length : Int) : Int) == 0) = true → ((((Tree.words t).length : Int) : Int) == 0) = true) ∧ ((((((Tree.words t).length : Int) : Int) == 0) = true → ((((Tree.words t).length : Int) : Int) == 0) = true)) ∧ (Q .ret (⟨[(4, .c (.bool (bif ((((Tree.words t).length : Int) : Int) == 0) then ((((Tree.kids t).length : Int) : Int) == 0) else false)))], [], []⟩ : LSt U))) ∧ ((((Tree.kind t) : Int) == 0) = false → (((((Tree.kind t) : Int) == 10) = true → (((((Tree.words t).length : Int) : Int) == 1) = true → ((((Tree.words t).length : Int) : Int) == 1) = true) ∧ (((((Tree.words t).length : Int) : Int) == 1) = true → ((((Tree.words t).length : Int) : Int) == 1) = true) ∧ (((((Tree.words t).length : Int) : Int) == 1) = true → ((((Tree.words t).length : Int) : Int) == 1) = true) ∧ ((((((Tree.words t).length : Int) : Int) == 1) = true → ((((Tree.words t).length : Int) : Int) == 1) = true)) ∧ (Q .ret (⟨[(4, .c (.bool (bif ((((Tree.words t).length : Int) : Int) == 1) then ((((Tree.kids t).length : Int) : Int) == 0) else false)))], [], []⟩ : LSt U))) ∧ ((((Tree.kind t) : Int) == 10) = false → ((!(decide (((Tree.kind t) : Int) < 0))) = true → (!(decide (((Tree.kind t) : Int) < 0))) = true) ∧ ((!(decide (((Tree.kind t) : Int) < 0))) = true → (!(decide (((Tree.kind t) : Int) < 0))) = true) ∧ (((decide (((Tree.kind t) : Int) < 0)) = false → (!(decide (((Tree.kind t) : Int) < 0))) = true)) ∧ ((!(bif (decide (((Tree.kind t) : Int) < 0)) then true else (decide ((10 : Int) < (Tree.kind t))))) = true → (!(bif (decide (((Tree.kind t) : Int) < 0)) then true else (decide ((10 : Int) < (Tree.kind t))))) = true) ∧ (((bif (decide (((Tree.kind t) : Int) < 0)) then true else (decide ((10 : Int) < (Tree.kind t)))) = false → (!(bif (decide (((Tree.kind t) : Int) < 0)) then true else (decide ((10 : Int) < (Tree.kind t))))) = true)) ∧ ((!(bif (bif (decide (((Tree.kind t) : Int) < 0)) then true else (decide ((10 : Int) < (Tree.kind t)))) then true else ((d : Int) == 0))) = true → (!(bif (bif (decide (((Tree.kind t) : Int) < 0)) then true else (decide ((10 : Int) < (Tree.kind t)))) then true else ((d : Int) == 0))) = true) ∧ ((!(bif (bif (decide (((Tree.kind t) : Int) < 0)) then true else (decide ((10 : Int) < (Tree.kind t)))) then true else ((d : Int) == 0))) = true → (!(bif (bif (decide (((Tree.kind t) : Int) < 0)) then true else (decide ((10 : Int) < (Tree.kind t)))) then true else ((d : Int) == 0))) = true) ∧ ((!(bif (bif (decide (((Tree.kind t) : Int) < 0)) then true else (decide ((10 : Int) < (Tree.kind t)))) then true else ((d : Int) == 0))) = true → (!(bif (bif (decide (((Tree.kind t) : Int) < 0)) then true else (decide ((10 : Int) < (Tree.kind t)))) then true else ((d : Int) == 0))) = true) ∧ (((bif (bif (decide (((Tree.kind t) : Int) < 0)) then true else (decide ((10 : Int) < (Tree.kind t)))) then true else ((d : Int) == 0)) = false → (!(bif (bif (decide (((Tree.kind t) : Int) < 0)) then true else (decide ((10 : Int) < (Tree.kind t)))) then true else ((d : Int) == 0))) = true)) ∧ ((!(bif (bif (bif (decide (((Tree.kind t) : Int) < 0)) then true else (decide ((10 : Int) < (Tree.kind t)))) then true else ((d : Int) == 0)) then true else (decide ((65536 : Int) ≤ ((Tree.words t).length : Int))))) = true → (!(bif (bif (bif (decide (((Tree.kind t) : Int) < 0)) then true else (decide ((10 : Int) < (Tree.kind t)))) then true else ((d : Int) == 0)) then true else (decide ((65536 : Int) ≤ ((Tree.words t).length : Int))))) = true) ∧ ((!(bif (bif (bif (decide (((Tree.kind t) : Int) < 0)) then true else (decide ((10 : Int) < (Tree.kind t)))) then true else ((d : Int) == 0)) then true else (decide ((65536 : Int) ≤ ((Tree.words t).length : Int))))) = true → (!(bif (bif (bif (decide (((Tree.kind t) : Int) < 0)) then true else (decide ((10 : Int) < (Tree.kind t)))) then true else ((d : Int) == 0)) then true else (decide ((65536 : Int) ≤ ((Tree.words t).length : Int))))) = true) ∧ ((!(bif (bif (bif (decide (((Tree.kind t) : Int) < 0)) then true else (decide ((10 : Int) < (Tree.kind t)))) then true else ((d : Int) == 0)) then true else (decide ((65536 : Int) ≤ ((Tree.words t).length : Int))))) = true → (!(bif (bif (bif (decide (((Tree.kind t) : Int) < 0)) then true else (decide ((10 : Int) < (Tree.kind t)))) then true else ((d : Int) == 0)) then true else (decide ((65536 : Int) ≤ ((Tree.words t).length : Int))))) = true) ∧ (((!(bif (bif (bif (decide (((Tree.kind t) : Int) < 0)) then true else (decide ((10 : Int) < (Tree.kind t)))) then true else ((d : Int) == 0)) then true else (decide ((65536 : Int) ≤ ((Tree.words t).length : Int))))) && (((Tree.kind t) : Int) == 1)) = true → ((!(bif (bif (bif (decide (((Tree.kind t) : Int) < 0)) then true else (decide ((10 : Int) < (Tree.kind t)))) then true else ((d : Int) == 0)) then true else (decide ((65536 : Int) ≤ ((Tree.words t).length : Int))))) && (((Tree.kind t) : Int) == 1)) = true) ∧ (((!(bif (bif (bif (decide (((Tree.kind t) : Int) < 0)) then true else (decide ((10 : Int) < (Tree.kind t)))) then true else ((d : Int) == 0)) then true else (decide ((65536 : Int) ≤ ((Tree.words t).length : Int))))) && (((Tree.kind t) : Int) == 1)) = true → ((!(bif (bif (bif (decide (((Tree.kind t) : Int) < 0)) then true else (decide ((10 : Int) < (Tree.kind t)))) then true else ((d : Int) == 0)) then true else (decide ((65536 : Int) ≤ ((Tree.words t).length : Int))))) && (((Tree.kind t) : Int) == 1)) = true) ∧ (((!(bif (bif (bif (decide (((Tree.kind t) : Int) < 0)) then true else (decide ((10 : Int) < (Tree.kind t)))) then true else ((d : Int) == 0)) then true else (decide ((65536 : Int) ≤ ((Tree.words t).length : Int))))) && (((Tree.kind t) : Int) == 1)) = true → ((!(bif (bif (bif (decide (((Tree.kind t) : Int) < 0)) then true else (decide ((10 : Int) < (Tree.kind t)))) then true else ((d : Int) == 0)) then true else (decide ((65536 : Int) ≤ ((Tree.words t).length : Int))))) && (((Tree.kind t) : Int) == 1)) = true) ∧ ((!(bif (bif (bif (decide (((Tree.kind t) : Int) < 0)) then true else (decide ((10 : Int) < (Tree.kind t)))) then true else ((d : Int) == 0)) then true else (decide ((65536 : Int) ≤ ((Tree.words t).length : Int))))) = true → (True → (!(bif (bif (bif (decide (((Tree.kind t) : Int) < 0)) then true else (decide ((10 : Int) < (Tree.kind t)))) then true else ((d : Int) == 0)) then true else (decide ((65536 : Int) ≤ ((Tree.words t).length : Int))))) = true)) ∧ ((!(bif (bif (bif (decide (((Tree.kind t) : Int) < 0)) then true else (decide ((10 : Int) < (Tree.kind t)))) then true else ((d : Int) == 0)) then true else (decide ((65536 : Int) ≤ ((Tree.words t).length : Int))))) = true → ((((Tree.kind t) : Int) == 1) = true → ((!(bif (bif (bif (decide (((Tree.kind t) : Int) < 0)) then true else (decide ((10 : Int) < (Tree.kind t)))) then true else ((d : Int) == 0)) then true else (decide ((65536 : Int) ≤ ((Tree.words t).length : Int))))) && (((Tree.kind t) : Int) == 1)) = true)) ∧ (((bif (bif (bif (decide (((Tree.kind t) : Int) < 0)) then true else (decide ((10 : Int) < (Tree.kind t)))) then true else ((d : Int) == 0)) then true else (decide ((65536 : Int) ≤ ((Tree.words t).length : Int)))) = false → (!(bif (bif (bif (decide (((Tree.kind t) : Int) < 0)) then true else (decide ((10 : Int) < (Tree.kind t)))) then true else ((d : Int) == 0)) then true else (decide ((65536 : Int) ≤ ((Tree.words t).length : Int))))) = true)) ∧ ((!(bif (bif (bif (bif (decide (((Tree.kind t) : Int) < 0)) then true else (decide ((10 : Int) < (Tree.kind t)))) then true else ((d : Int) == 0)) then true else (decide ((65536 : Int) ≤ ((Tree.words t).length : Int)))) then true else (bif (((Tree.kind t) : Int) == 1) then (decide ((65536 : Int) ≤ ((Tree.kids t).length : Int))) else false))) = true → (!(bif (bif (bif (bif (decide (((Tree.kind t) : Int) < 0)) then true else (decide ((10 : Int) < (Tree.kind t)))) then true else ((d : Int) == 0)) then true else (decide ((65536 : Int) ≤ ((Tree.words t).length : Int)))) then true else (bif (((Tree.kind t) : Int) == 1) then (decide ((65536 : Int) ≤ ((Tree.kids t).length : Int))) else false))) = true) ∧ ((!(bif (bif (bif (bif (decide (((Tree.kind t) : Int) < 0)) then true else (decide ((10 : Int) < (Tree.kind t)))) then true else ((d : Int) == 0)) then true else (decide ((65536 : Int) ≤ ((Tree.words t).length : Int)))) then true else (bif (((Tree.kind t) : Int) == 1) then (decide ((65536 : Int) ≤ ((Tree.kids t).length : Int))) else false))) = true → (!(bif (bif (bif (bif (decide (((Tree.kind t) : Int) < 0)) then true else (decide ((10 : Int) < (Tree.kind t)))) then true else ((d : Int) == 0)) then true else (decide ((65536 : Int) ≤ ((Tree.words t).length : Int)))) then true else (bif (((Tree.kind t) : Int) == 1) then (decide ((65536 : Int) ≤ ((Tree.kids t).length : Int))) else false))) = true) ∧ ((!(bif (bif (bif (bif (decide (((Tree.kind t) : Int) < 0)) then true else (decide ((10 : Int) < (Tree.kind t)))) then true else ((d : Int) == 0)) then true else (decide ((65536 : Int) ≤ ((Tree.words t).length : Int)))) then true else (bif (((Tree.kind t) : Int) == 1) then (decide ((65536 : Int) ≤ ((Tree.kids t).length : Int))) else false))) = true → (!(bif (bif (bif (bif (decide (((Tree.kind t) : Int) < 0)) then true else (decide ((10 : Int) < (Tree.kind t)))) then true else ((d : Int) == 0)) then true else (decide ((65536 : Int) ≤ ((Tree.words t).length : Int)))) then true else (bif (((Tree.kind t) : Int) == 1) then (decide ((65536 : Int) ≤ ((Tree.kids t).length : Int))) else false))) = true) ∧ (((bif (bif (bif (bif (decide (((Tree.kind t) : Int) < 0)) then true else (decide ((10 : Int) < (Tree.kind t)))) then true else ((d : Int) == 0)) then true else (decide ((65536 : Int) ≤ ((Tree.words t).length : Int)))) then true else (bif (((Tree.kind t) : Int) == 1) then (decide ((65536 : Int) ≤ ((Tree.kids t).length : Int))) else false)) = false → (!(bif (bif (bif (bif (decide (((Tree.kind t) : Int) < 0)) then true else (decide ((10 : Int) < (Tree.kind t)))) then true else ((d : Int) == 0)) then true else (decide ((65536 : Int) ≤ ((Tree.words t).length : Int)))) then true else (bif (((Tree.kind t) : Int) == 1) then (decide ((65536 : Int) ≤ ((Tree.kids t).length : Int))) else false))) = true)) ∧ (((bif (bif (bif (bif (bif (decide (((Tree.kind t) : Int) < 0)) then true else (decide ((10 : Int) < (Tree.kind t)))) then true else ((d : Int) == 0)) then true else (decide ((65536 : Int) ≤ ((Tree.words t).length : Int)))) then true else (bif (((Tree.kind t) : Int) == 1) then (decide ((65536 : Int) ≤ ((Tree.kids t).length : Int))) else false)) then true else (decide ((1048576 : Int) ≤ ((Tree.kids t).length : Int)))) = true → (Q .ret (⟨[(4, .c (.bool false))], [], []⟩ : LSt U))) ∧ ((bif (bif (bif (bif (bif (decide (((Tree.kind t) : Int) < 0)) then true else (decide ((10 : Int) < (Tree.kind t)))) then true else ((d : Int) == 0)) then true else (decide ((65536 : Int) ≤ ((Tree.words t).length : Int)))) then true else (bif (((Tree.kind t) : Int) == 1) then (decide ((65536 : Int) ≤ ((Tree.kids t).length : Int))) else false)) then true else (decide ((1048576 : Int) ≤ ((Tree.kids t).length : Int)))) = false → ((decide ((1 : Int) < (Tree.kind t))) = true → (decide ((1 : Int) < (Tree.kind t))) = true) ∧ ((decide ((1 : Int) < (Tree.kind t))) = true → (decide ((1 : Int) < (Tree.kind t))) = true) ∧ ((decide ((1 : Int) < (Tree.kind t))) = true → (decide ((1 : Int) < (Tree.kind t))) = true) ∧ (((decide ((1 : Int) < (Tree.kind t))) = true → (decide ((1 : Int) < (Tree.kind t))) = true)) ∧ (((bif (decide ((1 : Int) < (Tree.kind t))) then (decide ((0 : Int) < ((Tree.words t).length : Int))) else false) = true → (Q .ret (⟨[(4, .c (.bool false))], [], []⟩ : LSt U))) ∧ ((bif (decide ((1 : Int) < (Tree.kind t))) then (decide ((0 : Int) < ((Tree.words t).length : Int))) else false) = false → (LoopWp (awp cfg (know (know43 N)) (drawOk cfg (know (know43 N))) Try.f43.ntmps lv43 (cd Try.f43 [1, 1, 1, 1, 1, 0, 1, 0, 0])) (head43_0 t d 0) (AExit.inBlock 0 (seqK cfg (know (know43 N)) (drawOk cfg (know (know43 N))) Try.f43.ntmps lv43 (cd Try.f43 [1, 1, 1, 1, 1, 1]) Q))))))))))))) := by kernel_rfl
  exact e.mpr ⟨fun c_22 => ⟨fun x => x, fun x => x, fun x => x, (by generalize ((((Tree.words t).length : Int) : Int) == 0) = b0; revert b0; decide), (h.1 c_22)⟩, fun c_22 => ⟨fun c_23 => ⟨fun x => x, fun x => x, fun x => x, (by generalize ((((Tree.words t).length : Int) : Int) == 1) = b0; revert b0; decide), ((h.2 c_22).1 c_23)⟩, fun c_23 => ⟨fun x => x, fun x => x, (by generalize (decide (((Tree.kind t) : Int) < 0)) = b0; revert b0; decide), fun x => x, (by generalize (decide ((10 : Int) < (Tree.kind t))) = b0; generalize (decide (((Tree.kind t) : Int) < 0)) = b1; revert b0 b1; decide), fun x => x, fun x => x, fun x => x, (by generalize (decide ((10 : Int) < (Tree.kind t))) = b0; generalize (decide (((Tree.kind t) : Int) < 0)) = b1; generalize ((d : Int) == 0) = b2; revert b0 b1 b2; decide), fun x => x, fun x => x, fun x => x, fun x => x, fun x => x, fun x => x, (by generalize (decide ((65536 : Int) ≤ ((Tree.words t).length : Int))) = b0; generalize (decide ((10 : Int) < (Tree.kind t))) = b1; generalize (decide (((Tree.kind t) : Int) < 0)) = b2; generalize ((d : Int) == 0) = b3; revert b0 b1 b2 b3; decide), (by generalize (decide ((65536 : Int) ≤ ((Tree.words t).length : Int))) = b0; generalize (decide ((10 : Int) < (Tree.kind t))) = b1; generalize (decide (((Tree.kind t) : Int) < 0)) = b2; generalize (((Tree.kind t) : Int) == 1) = b3; generalize ((d : Int) == 0) = b4; revert b0 b1 b2 b3 b4; decide), (by generalize (decide ((65536 : Int) ≤ ((Tree.words t).length : Int))) = b0; generalize (decide ((10 : Int) < (Tree.kind t))) = b1; generalize (decide (((Tree.kind t) : Int) < 0)) = b2; generalize ((d : Int) == 0) = b3; revert b0 b1 b2 b3; decide), fun x => x, fun x => x, fun x => x, (by generalize (decide ((65536 : Int) ≤ ((Tree.words t).length : Int))) = b0; generalize (decide ((65536 : Int) ≤ ((Tree.kids t).length : Int))) = b1; generalize (decide ((10 : Int) < (Tree.kind t))) = b2; generalize (decide (((Tree.kind t) : Int) < 0)) = b3; generalize (((Tree.kind t) : Int) == 1) = b4; generalize ((d : Int) == 0) = b5; revert b0 b1 b2 b3 b4 b5; decide), ⟨fun c_24 => (((h.2 c_22).2 c_23).1 c_24), fun c_24 => ⟨fun x => x, fun x => x, fun x => x, (by generalize (decide ((1 : Int) < (Tree.kind t))) = b0; revert b0; decide), ⟨fun c_25 => ((((h.2 c_22).2 c_23).2 c_24).1 c_25), fun c_25 => ((((h.2 c_22).2 c_23).2 c_24).2 c_25)⟩⟩⟩⟩⟩⟩
theorem vc43_l0 (N : Nat) (t : Tree) (d : Int) (x5 : Int) (N0 : LSt U → Prop) (Q : AExit → LSt U → Prop) (h : ((decide ((x5 : Int) < ((Tree.kids t).length : Int))) = true → ((0 : Int) ≤ x5 ∧ x5 < ((Tree.kids t).length : Int)) ∧ ((InR ((d : Int) - 1)) ∧ (pre43 ((Tree.mk (Tree.kind (List.getD (Tree.kids t) (Int.toNat x5) Tree.nil)) (Tree.words (List.getD (Tree.kids t) (Int.toNat x5) Tree.nil)) (Tree.kids (List.getD (Tree.kids t) (Int.toNat x5) Tree.nil))), ((d : Int) - 1), ())) ∧ (mu43 ((Tree.mk (Tree.kind (List.getD (Tree.kids t) (Int.toNat x5) Tree.nil)) (Tree.words (List.getD (Tree.kids t) (Int.toNat x5) Tree.nil)) (Tree.kids (List.getD (Tree.kids t) (Int.toNat x5) Tree.nil))), ((d : Int) - 1), ()) < N) ∧ (((!(rightT (Tree.mk (Tree.kind (List.getD (Tree.kids t) (Int.toNat x5) Tree.nil)) (Tree.words (List.getD (Tree.kids t) (Int.toNat x5) Tree.nil)) (Tree.kids (List.getD (Tree.kids t) (Int.toNat x5) Tree.nil))) ((d : Int) - 1))) = true → Q .ret (⟨[(4, .c (.bool false))], [], []⟩ : LSt U)) ∧ ((!(rightT (Tree.mk (Tree.kind (List.getD (Tree.kids t) (Int.toNat x5) Tree.nil)) (Tree.words (List.getD (Tree.kids t) (Int.toNat x5) Tree.nil)) (Tree.kids (List.getD (Tree.kids t) (Int.toNat x5) Tree.nil))) ((d : Int) - 1))) = false → (((!(bif ((bif (decide ((2 : Int) ≤ (Tree.kind t))) then (decide (((Tree.kind t) : Int) ≤ 7)) else false) != (((Tree.kind (List.getD (Tree.kids t) (Int.toNat x5) Tree.nil)) : Int) == 10)) then true else (bif (((Tree.kind t) : Int) == 9) then (((Tree.kind (List.getD (Tree.kids t) (Int.toNat x5) Tree.nil)) : Int) != 1) else false))) && (bif (decide ((2 : Int) ≤ (Tree.kind t))) then (decide (((Tree.kind t) : Int) ≤ 7)) else false)) = true → InR (((Tree.kind t) : Int) - 2)) ∧ (((!(bif ((bif (decide ((2 : Int) ≤ (Tree.kind t))) then (decide (((Tree.kind t) : Int) ≤ 7)) else false) != (((Tree.kind (List.getD (Tree.kids t) (Int.toNat x5) Tree.nil)) : Int) == 10)) then true else (bif (((Tree.kind t) : Int) == 9) then (((Tree.kind (List.getD (Tree.kids t) (Int.toNat x5) Tree.nil)) : Int) != 1) else false))) && (bif (decide ((2 : Int) ≤ (Tree.kind t))) then (decide (((Tree.kind t) : Int) ≤ 7)) else false)) = true → (0 : Int) ≤ 0 ∧ 0 < ((Tree.words (List.getD (Tree.kids t) (Int.toNat x5) Tree.nil)).length : Int)) ∧ (((!(bif ((bif (decide ((2 : Int) ≤ (Tree.kind t))) then (decide (((Tree.kind t) : Int) ≤ 7)) else false) != (((Tree.kind (List.getD (Tree.kids t) (Int.toNat x5) Tree.nil)) : Int) == 10)) then true else (bif (((Tree.kind t) : Int) == 9) then (((Tree.kind (List.getD (Tree.kids t) (Int.toNat x5) Tree.nil)) : Int) != 1) else false))) && (bif (decide ((2 : Int) ≤ (Tree.kind t))) then (decide (((Tree.kind t) : Int) ≤ 7)) else false)) = true → pre58 ((((Tree.kind t) : Int) - 2), (List.getD (Tree.words (List.getD (Tree.kids t) (Int.toNat x5) Tree.nil)) (Int.toNat 0) (0 : Int)), ())) ∧ (((bif (bif ((bif (decide ((2 : Int) ≤ (Tree.kind t))) then (decide (((Tree.kind t) : Int) ≤ 7)) else false) != (((Tree.kind (List.getD (Tree.kids t) (Int.toNat x5) Tree.nil)) : Int) == 10)) then true else (bif (((Tree.kind t) : Int) == 9) then (((Tree.kind (List.getD (Tree.kids t) (Int.toNat x5) Tree.nil)) : Int) != 1) else false)) then true else (bif (bif (decide ((2 : Int) ≤ (Tree.kind t))) then (decide (((Tree.kind t) : Int) ≤ 7)) else false) then (!(fits (((Tree.kind t) : Int) - 2) (List.getD (Tree.words (List.getD (Tree.kids t) (Int.toNat x5) Tree.nil)) (Int.toNat 0) (0 : Int)))) else false)) = true → Q .ret (⟨[(4, .c (.bool false))], [], []⟩ : LSt U)) ∧ ((bif (bif ((bif (decide ((2 : Int) ≤ (Tree.kind t))) then (decide (((Tree.kind t) : Int) ≤ 7)) else false) != (((Tree.kind (List.getD (Tree.kids t) (Int.toNat x5) Tree.nil)) : Int) == 10)) then true else (bif (((Tree.kind t) : Int) == 9) then (((Tree.kind (List.getD (Tree.kids t) (Int.toNat x5) Tree.nil)) : Int) != 1) else false)) then true else (bif (bif (decide ((2 : Int) ≤ (Tree.kind t))) then (decide (((Tree.kind t) : Int) ≤ 7)) else false) then (!(fits (((Tree.kind t) : Int) - 2) (List.getD (Tree.words (List.getD (Tree.kids t) (Int.toNat x5) Tree.nil)) (Int.toNat 0) (0 : Int)))) else false)) = false → (InR ((x5 : Int) + 1)) ∧ (N0 (head43_0 t d ((x5 : Int) + 1))))))))) ∧ ((decide ((x5 : Int) < ((Tree.kids t).length : Int))) = false → Q .ret (⟨[(4, .c (.bool true))], [], []⟩ : LSt U))) :
    awp cfg (know (know43 N)) (drawOk cfg (know (know43 N))) Try.f43.ntmps lv43 (cd Try.f43 [1, 1, 1, 1, 1, 0, 1, 0, 0]) (head43_0 t d x5) (AExit.then N0 (AExit.inBlock 0 (seqK cfg (know (know43 N)) (drawOk cfg (know (know43 N))) Try.f43.ntmps lv43 (cd Try.f43 [1, 1, 1, 1, 1, 1]) Q))) := by
  have e : (awp cfg (know (know43 N)) (drawOk cfg (know (know43 N))) Try.f43.ntmps lv43 (cd Try.f43 [1, 1, 1, 1, 1, 0, 1, 0, 0]) (head43_0 t d x5) (AExit.then N0 (AExit.inBlock 0 (seqK cfg (know (know43 N)) (drawOk cfg (know (know43 N))) Try.f43.ntmps lv43 (cd Try.f43 [1, 1, 1, 1, 1, 1]) Q)))) = ((((decide ((x5 : Int) < ((Tree.kids t).length : Int))) = true → ((0 : Int) ≤ x5 ∧ x5 < ((Tree.kids t).length : Int)) ∧ ((InR ((d : Int) - 1)) ∧ (pre43 ((Tree.mk (Tree.kind (List.getD (Tree.kids t) (Int.toNat x5) Tree.nil)) (Tree.words (List.getD (Tree.kids t) (Int.toNat x5) Tree.nil)) (Tree.kids (List.getD (Tree.kids t) (Int.toNat x5) Tree.nil))), ((d : Int) - 1), ())) ∧ (mu43 ((Tree.mk (Tree.kind (List.getD (Tree.kids t) (Int.toNat x5) Tree.nil)) (Tree.words (List.getD (Tree.kids t) (Int.toNat x5) Tree.nil)) (Tree.kids (List.getD (Tree.kids t) (Int.toNat x5) Tree.nil))), ((d : Int) - 1), ()) < N) ∧ (((!(rightT (Tree.mk (Tree.kind (List.getD (Tree.kids t) (Int.toNat x5) Tree.nil)) (Tree.words (List.getD (Tree.kids t) (Int.toNat x5) Tree.nil)) (Tree.kids (List.getD (Tree.kids t) (Int.toNat x5) Tree.nil))) ((d : Int) - 1))) = true → (Q .ret (⟨[(4, .c (.bool false))], [], []⟩ : LSt U))) ∧ ((!(rightT (Tree.mk (Tree.kind (List.getD (Tree.kids t) (Int.toNat x5) Tree.nil)) (Tree.words (List.getD (Tree.kids t) (Int.toNat x5) Tree.nil)) (Tree.kids (List.getD (Tree.kids t) (Int.toNat x5) Tree.nil))) ((d : Int) - 1))) = false → ((decide ((2 : Int) ≤ (Tree.kind t))) = true → (decide ((2 : Int) ≤ (Tree.kind t))) = true) ∧ ((decide ((2 : Int) ≤ (Tree.kind t))) = true → (decide ((2 : Int) ≤ (Tree.kind t))) = true) ∧ (((decide ((2 : Int) ≤ (Tree.kind t))) = true → (decide ((2 : Int) ≤ (Tree.kind t))) = true)) ∧ (((!((bif (decide ((2 : Int) ≤ (Tree.kind t))) then (decide (((Tree.kind t) : Int) ≤ 7)) else false) != (((Tree.kind (List.getD (Tree.kids t) (Int.toNat x5) Tree.nil)) : Int) == 10))) = true → (!((bif (decide ((2 : Int) ≤ (Tree.kind t))) then (decide (((Tree.kind t) : Int) ≤ 7)) else false) != (((Tree.kind (List.getD (Tree.kids t) (Int.toNat x5) Tree.nil)) : Int) == 10))) = true) ∧ ((!((bif (decide ((2 : Int) ≤ (Tree.kind t))) then (decide (((Tree.kind t) : Int) ≤ 7)) else false) != (((Tree.kind (List.getD (Tree.kids t) (Int.toNat x5) Tree.nil)) : Int) == 10))) = true → (!((bif (decide ((2 : Int) ≤ (Tree.kind t))) then (decide (((Tree.kind t) : Int) ≤ 7)) else false) != (((Tree.kind (List.getD (Tree.kids t) (Int.toNat x5) Tree.nil)) : Int) == 10))) = true) ∧ ((!((bif (decide ((2 : Int) ≤ (Tree.kind t))) then (decide (((Tree.kind t) : Int) ≤ 7)) else false) != (((Tree.kind (List.getD (Tree.kids t) (Int.toNat x5) Tree.nil)) : Int) == 10))) = true → (!((bif (decide ((2 : Int) ≤ (Tree.kind t))) then (decide (((Tree.kind t) : Int) ≤ 7)) else false) != (((Tree.kind (List.getD (Tree.kids t) (Int.toNat x5) Tree.nil)) : Int) == 10))) = true) ∧ (((!((bif (decide ((2 : Int) ≤ (Tree.kind t))) then (decide (((Tree.kind t) : Int) ≤ 7)) else false) != (((Tree.kind (List.getD (Tree.kids t) (Int.toNat x5) Tree.nil)) : Int) == 10))) && (((Tree.kind t) : Int) == 9)) = true → ((!((bif (decide ((2 : Int) ≤ (Tree.kind t))) then (decide (((Tree.kind t) : Int) ≤ 7)) else false) != (((Tree.kind (List.getD (Tree.kids t) (Int.toNat x5) Tree.nil)) : Int) == 10))) && (((Tree.kind t) : Int) == 9)) = true) ∧ (((!((bif (decide ((2 : Int) ≤ (Tree.kind t))) then (decide (((Tree.kind t) : Int) ≤ 7)) else false) != (((Tree.kind (List.getD (Tree.kids t) (Int.toNat x5) Tree.nil)) : Int) == 10))) && (((Tree.kind t) : Int) == 9)) = true → ((!((bif (decide ((2 : Int) ≤ (Tree.kind t))) then (decide (((Tree.kind t) : Int) ≤ 7)) else false) != (((Tree.kind (List.getD (Tree.kids t) (Int.toNat x5) Tree.nil)) : Int) == 10))) && (((Tree.kind t) : Int) == 9)) = true) ∧ ((!((bif (decide ((2 : Int) ≤ (Tree.kind t))) then (decide (((Tree.kind t) : Int) ≤ 7)) else false) != (((Tree.kind (List.getD (Tree.kids t) (Int.toNat x5) Tree.nil)) : Int) == 10))) = true → (True → (!((bif (decide ((2 : Int) ≤ (Tree.kind t))) then (decide (((Tree.kind t) : Int) ≤ 7)) else false) != (((Tree.kind (List.getD (Tree.kids t) (Int.toNat x5) Tree.nil)) : Int) == 10))) = true)) ∧ ((!((bif (decide ((2 : Int) ≤ (Tree.kind t))) then (decide (((Tree.kind t) : Int) ≤ 7)) else false) != (((Tree.kind (List.getD (Tree.kids t) (Int.toNat x5) Tree.nil)) : Int) == 10))) = true → ((((Tree.kind t) : Int) == 9) = true → ((!((bif (decide ((2 : Int) ≤ (Tree.kind t))) then (decide (((Tree.kind t) : Int) ≤ 7)) else false) != (((Tree.kind (List.getD (Tree.kids t) (Int.toNat x5) Tree.nil)) : Int) == 10))) && (((Tree.kind t) : Int) == 9)) = true)) ∧ ((((bif (decide ((2 : Int) ≤ (Tree.kind t))) then (decide (((Tree.kind t) : Int) ≤ 7)) else false) != (((Tree.kind (List.getD (Tree.kids t) (Int.toNat x5) Tree.nil)) : Int) == 10)) = false → (!((bif (decide ((2 : Int) ≤ (Tree.kind t))) then (decide (((Tree.kind t) : Int) ≤ 7)) else false) != (((Tree.kind (List.getD (Tree.kids t) (Int.toNat x5) Tree.nil)) : Int) == 10))) = true)) ∧ ((!(bif ((bif (decide ((2 : Int) ≤ (Tree.kind t))) then (decide (((Tree.kind t) : Int) ≤ 7)) else false) != (((Tree.kind (List.getD (Tree.kids t) (Int.toNat x5) Tree.nil)) : Int) == 10)) then true else (bif (((Tree.kind t) : Int) == 9) then (((Tree.kind (List.getD (Tree.kids t) (Int.toNat x5) Tree.nil)) : Int) != 1) else false))) = true → (!(bif ((bif (decide ((2 : Int) ≤ (Tree.kind t))) then (decide (((Tree.kind t) : Int) ≤ 7)) else false) != (((Tree.kind (List.getD (Tree.kids t) (Int.toNat x5) Tree.nil)) : Int) == 10)) then true else (bif (((Tree.kind t) : Int) == 9) then (((Tree.kind (List.getD (Tree.kids t) (Int.toNat x5) Tree.nil)) : Int) != 1) else false))) = true) ∧ (((!(bif ((bif (decide ((2 : Int) ≤ (Tree.kind t))) then (decide (((Tree.kind t) : Int) ≤ 7)) else false) != (((Tree.kind (List.getD (Tree.kids t) (Int.toNat x5) Tree.nil)) : Int) == 10)) then true else (bif (((Tree.kind t) : Int) == 9) then (((Tree.kind (List.getD (Tree.kids t) (Int.toNat x5) Tree.nil)) : Int) != 1) else false))) && (bif (decide ((2 : Int) ≤ (Tree.kind t))) then (decide (((Tree.kind t) : Int) ≤ 7)) else false)) = true → ((!(bif ((bif (decide ((2 : Int) ≤ (Tree.kind t))) then (decide (((Tree.kind t) : Int) ≤ 7)) else false) != (((Tree.kind (List.getD (Tree.kids t) (Int.toNat x5) Tree.nil)) : Int) == 10)) then true else (bif (((Tree.kind t) : Int) == 9) then (((Tree.kind (List.getD (Tree.kids t) (Int.toNat x5) Tree.nil)) : Int) != 1) else false))) && (bif (decide ((2 : Int) ≤ (Tree.kind t))) then (decide (((Tree.kind t) : Int) ≤ 7)) else false)) = true) ∧ (((!(bif ((bif (decide ((2 : Int) ≤ (Tree.kind t))) then (decide (((Tree.kind t) : Int) ≤ 7)) else false) != (((Tree.kind (List.getD (Tree.kids t) (Int.toNat x5) Tree.nil)) : Int) == 10)) then true else (bif (((Tree.kind t) : Int) == 9) then (((Tree.kind (List.getD (Tree.kids t) (Int.toNat x5) Tree.nil)) : Int) != 1) else false))) && (bif (decide ((2 : Int) ≤ (Tree.kind t))) then (decide (((Tree.kind t) : Int) ≤ 7)) else false)) = true → ((!(bif ((bif (decide ((2 : Int) ≤ (Tree.kind t))) then (decide (((Tree.kind t) : Int) ≤ 7)) else false) != (((Tree.kind (List.getD (Tree.kids t) (Int.toNat x5) Tree.nil)) : Int) == 10)) then true else (bif (((Tree.kind t) : Int) == 9) then (((Tree.kind (List.getD (Tree.kids t) (Int.toNat x5) Tree.nil)) : Int) != 1) else false))) && (bif (decide ((2 : Int) ≤ (Tree.kind t))) then (decide (((Tree.kind t) : Int) ≤ 7)) else false)) = true) ∧ (((!(bif ((bif (decide ((2 : Int) ≤ (Tree.kind t))) then (decide (((Tree.kind t) : Int) ≤ 7)) else false) != (((Tree.kind (List.getD (Tree.kids t) (Int.toNat x5) Tree.nil)) : Int) == 10)) then true else (bif (((Tree.kind t) : Int) == 9) then (((Tree.kind (List.getD (Tree.kids t) (Int.toNat x5) Tree.nil)) : Int) != 1) else false))) && (bif (decide ((2 : Int) ≤ (Tree.kind t))) then (decide (((Tree.kind t) : Int) ≤ 7)) else false)) = true → InR (((Tree.kind t) : Int) - 2)) ∧ (((!(bif ((bif (decide ((2 : Int) ≤ (Tree.kind t))) then (decide (((Tree.kind t) : Int) ≤ 7)) else false) != (((Tree.kind (List.getD (Tree.kids t) (Int.toNat x5) Tree.nil)) : Int) == 10)) then true else (bif (((Tree.kind t) : Int) == 9) then (((Tree.kind (List.getD (Tree.kids t) (Int.toNat x5) Tree.nil)) : Int) != 1) else false))) && (bif (decide ((2 : Int) ≤ (Tree.kind t))) then (decide (((Tree.kind t) : Int) ≤ 7)) else false)) = true → ((!(bif ((bif (decide ((2 : Int) ≤ (Tree.kind t))) then (decide (((Tree.kind t) : Int) ≤ 7)) else false) != (((Tree.kind (List.getD (Tree.kids t) (Int.toNat x5) Tree.nil)) : Int) == 10)) then true else (bif (((Tree.kind t) : Int) == 9) then (((Tree.kind (List.getD (Tree.kids t) (Int.toNat x5) Tree.nil)) : Int) != 1) else false))) && (bif (decide ((2 : Int) ≤ (Tree.kind t))) then (decide (((Tree.kind t) : Int) ≤ 7)) else false)) = true) ∧ (((!(bif ((bif (decide ((2 : Int) ≤ (Tree.kind t))) then (decide (((Tree.kind t) : Int) ≤ 7)) else false) != (((Tree.kind (List.getD (Tree.kids t) (Int.toNat x5) Tree.nil)) : Int) == 10)) then true else (bif (((Tree.kind t) : Int) == 9) then (((Tree.kind (List.getD (Tree.kids t) (Int.toNat x5) Tree.nil)) : Int) != 1) else false))) && (bif (decide ((2 : Int) ≤ (Tree.kind t))) then (decide (((Tree.kind t) : Int) ≤ 7)) else false)) = true → ((!(bif ((bif (decide ((2 : Int) ≤ (Tree.kind t))) then (decide (((Tree.kind t) : Int) ≤ 7)) else false) != (((Tree.kind (List.getD (Tree.kids t) (Int.toNat x5) Tree.nil)) : Int) == 10)) then true else (bif (((Tree.kind t) : Int) == 9) then (((Tree.kind (List.getD (Tree.kids t) (Int.toNat x5) Tree.nil)) : Int) != 1) else false))) && (bif (decide ((2 : Int) ≤ (Tree.kind t))) then (decide (((Tree.kind t) : Int) ≤ 7)) else false)) = true) ∧ (((!(bif ((bif (decide ((2 : Int) ≤ (Tree.kind t))) then (decide (((Tree.kind t) : Int) ≤ 7)) else false) != (((Tree.kind (List.getD (Tree.kids t) (Int.toNat x5) Tree.nil)) : Int) == 10)) then true else (bif (((Tree.kind t) : Int) == 9) then (((Tree.kind (List.getD (Tree.kids t) (Int.toNat x5) Tree.nil)) : Int) != 1) else false))) && (bif (decide ((2 : Int) ≤ (Tree.kind t))) then (decide (((Tree.kind t) : Int) ≤ 7)) else false)) = true → (0 : Int) ≤ 0 ∧ 0 < ((Tree.words (List.getD (Tree.kids t) (Int.toNat x5) Tree.nil)).length : Int)) ∧ (((!(bif ((bif (decide ((2 : Int) ≤ (Tree.kind t))) then (decide (((Tree.kind t) : Int) ≤ 7)) else false) != (((Tree.kind (List.getD (Tree.kids t) (Int.toNat x5) Tree.nil)) : Int) == 10)) then true else (bif (((Tree.kind t) : Int) == 9) then (((Tree.kind (List.getD (Tree.kids t) (Int.toNat x5) Tree.nil)) : Int) != 1) else false))) && (bif (decide ((2 : Int) ≤ (Tree.kind t))) then (decide (((Tree.kind t) : Int) ≤ 7)) else false)) = true → ((!(bif ((bif (decide ((2 : Int) ≤ (Tree.kind t))) then (decide (((Tree.kind t) : Int) ≤ 7)) else false) != (((Tree.kind (List.getD (Tree.kids t) (Int.toNat x5) Tree.nil)) : Int) == 10)) then true else (bif (((Tree.kind t) : Int) == 9) then (((Tree.kind (List.getD (Tree.kids t) (Int.toNat x5) Tree.nil)) : Int) != 1) else false))) && (bif (decide ((2 : Int) ≤ (Tree.kind t))) then (decide (((Tree.kind t) : Int) ≤ 7)) else false)) = true) ∧ (((!(bif ((bif (decide ((2 : Int) ≤ (Tree.kind t))) then (decide (((Tree.kind t) : Int) ≤ 7)) else false) != (((Tree.kind (List.getD (Tree.kids t) (Int.toNat x5) Tree.nil)) : Int) == 10)) then true else (bif (((Tree.kind t) : Int) == 9) then (((Tree.kind (List.getD (Tree.kids t) (Int.toNat x5) Tree.nil)) : Int) != 1) else false))) && (bif (decide ((2 : Int) ≤ (Tree.kind t))) then (decide (((Tree.kind t) : Int) ≤ 7)) else false)) = true → ((!(bif ((bif (decide ((2 : Int) ≤ (Tree.kind t))) then (decide (((Tree.kind t) : Int) ≤ 7)) else false) != (((Tree.kind (List.getD (Tree.kids t) (Int.toNat x5) Tree.nil)) : Int) == 10)) then true else (bif (((Tree.kind t) : Int) == 9) then (((Tree.kind (List.getD (Tree.kids t) (Int.toNat x5) Tree.nil)) : Int) != 1) else false))) && (bif (decide ((2 : Int) ≤ (Tree.kind t))) then (decide (((Tree.kind t) : Int) ≤ 7)) else false)) = true) ∧ (((!(bif ((bif (decide ((2 : Int) ≤ (Tree.kind t))) then (decide (((Tree.kind t) : Int) ≤ 7)) else false) != (((Tree.kind (List.getD (Tree.kids t) (Int.toNat x5) Tree.nil)) : Int) == 10)) then true else (bif (((Tree.kind t) : Int) == 9) then (((Tree.kind (List.getD (Tree.kids t) (Int.toNat x5) Tree.nil)) : Int) != 1) else false))) && (bif (decide ((2 : Int) ≤ (Tree.kind t))) then (decide (((Tree.kind t) : Int) ≤ 7)) else false)) = true → ((!(bif ((bif (decide ((2 : Int) ≤ (Tree.kind t))) then (decide (((Tree.kind t) : Int) ≤ 7)) else false) != (((Tree.kind (List.getD (Tree.kids t) (Int.toNat x5) Tree.nil)) : Int) == 10)) then true else (bif (((Tree.kind t) : Int) == 9) then (((Tree.kind (List.getD (Tree.kids t) (Int.toNat x5) Tree.nil)) : Int) != 1) else false))) && (bif (decide ((2 : Int) ≤ (Tree.kind t))) then (decide (((Tree.kind t) : Int) ≤ 7)) else false)) = true) ∧ (((!(bif ((bif (decide ((2 : Int) ≤ (Tree.kind t))) then (decide (((Tree.kind t) : Int) ≤ 7)) else false) != (((Tree.kind (List.getD (Tree.kids t) (Int.toNat x5) Tree.nil)) : Int) == 10)) then true else (bif (((Tree.kind t) : Int) == 9) then (((Tree.kind (List.getD (Tree.kids t) (Int.toNat x5) Tree.nil)) : Int) != 1) else false))) && (bif (decide ((2 : Int) ≤ (Tree.kind t))) then (decide (((Tree.kind t) : Int) ≤ 7)) else false)) = true → pre58 ((((Tree.kind t) : Int) - 2), (List.getD (Tree.words (List.getD (Tree.kids t) (Int.toNat x5) Tree.nil)) (Int.toNat 0) (0 : Int)), ())) ∧ (((!(bif ((bif (decide ((2 : Int) ≤ (Tree.kind t))) then (decide (((Tree.kind t) : Int) ≤ 7)) else false) != (((Tree.kind (List.getD (Tree.kids t) (Int.toNat x5) Tree.nil)) : Int) == 10)) then true else (bif (((Tree.kind t) : Int) == 9) then (((Tree.kind (List.getD (Tree.kids t) (Int.toNat x5) Tree.nil)) : Int) != 1) else false))) && (bif (decide ((2 : Int) ≤ (Tree.kind t))) then (decide (((Tree.kind t) : Int) ≤ 7)) else false)) = true → ((!(bif ((bif (decide ((2 : Int) ≤ (Tree.kind t))) then (decide (((Tree.kind t) : Int) ≤ 7)) else false) != (((Tree.kind (List.getD (Tree.kids t) (Int.toNat x5) Tree.nil)) : Int) == 10)) then true else (bif (((Tree.kind t) : Int) == 9) then (((Tree.kind (List.getD (Tree.kids t) (Int.toNat x5) Tree.nil)) : Int) != 1) else false))) && (bif (decide ((2 : Int) ≤ (Tree.kind t))) then (decide (((Tree.kind t) : Int) ≤ 7)) else false)) = true) ∧ ((!(bif ((bif (decide ((2 : Int) ≤ (Tree.kind t))) then (decide (((Tree.kind t) : Int) ≤ 7)) else false) != (((Tree.kind (List.getD (Tree.kids t) (Int.toNat x5) Tree.nil)) : Int) == 10)) then true else (bif (((Tree.kind t) : Int) == 9) then (((Tree.kind (List.getD (Tree.kids t) (Int.toNat x5) Tree.nil)) : Int) != 1) else false))) = true → (True → (!(bif ((bif (decide ((2 : Int) ≤ (Tree.kind t))) then (decide (((Tree.kind t) : Int) ≤ 7)) else false) != (((Tree.kind (List.getD (Tree.kids t) (Int.toNat x5) Tree.nil)) : Int) == 10)) then true else (bif (((Tree.kind t) : Int) == 9) then (((Tree.kind (List.getD (Tree.kids t) (Int.toNat x5) Tree.nil)) : Int) != 1) else false))) = true)) ∧ ((!(bif ((bif (decide ((2 : Int) ≤ (Tree.kind t))) then (decide (((Tree.kind t) : Int) ≤ 7)) else false) != (((Tree.kind (List.getD (Tree.kids t) (Int.toNat x5) Tree.nil)) : Int) == 10)) then true else (bif (((Tree.kind t) : Int) == 9) then (((Tree.kind (List.getD (Tree.kids t) (Int.toNat x5) Tree.nil)) : Int) != 1) else false))) = true → ((bif (decide ((2 : Int) ≤ (Tree.kind t))) then (decide (((Tree.kind t) : Int) ≤ 7)) else false) = true → ((!(bif ((bif (decide ((2 : Int) ≤ (Tree.kind t))) then (decide (((Tree.kind t) : Int) ≤ 7)) else false) != (((Tree.kind (List.getD (Tree.kids t) (Int.toNat x5) Tree.nil)) : Int) == 10)) then true else (bif (((Tree.kind t) : Int) == 9) then (((Tree.kind (List.getD (Tree.kids t) (Int.toNat x5) Tree.nil)) : Int) != 1) else false))) && (bif (decide ((2 : Int) ≤ (Tree.kind t))) then (decide (((Tree.kind t) : Int) ≤ 7)) else false)) = true)) ∧ (((bif ((bif (decide ((2 : Int) ≤ (Tree.kind t))) then (decide (((Tree.kind t) : Int) ≤ 7)) else false) != (((Tree.kind (List.getD (Tree.kids t) (Int.toNat x5) Tree.nil)) : Int) == 10)) then true else (bif (((Tree.kind t) : Int) == 9) then (((Tree.kind (List.getD (Tree.kids t) (Int.toNat x5) Tree.nil)) : Int) != 1) else false)) = false → (!(bif ((bif (decide ((2 : Int) ≤ (Tree.kind t))) then (decide (((Tree.kind t) : Int) ≤ 7)) else false) != (((Tree.kind (List.getD (Tree.kids t) (Int.toNat x5) Tree.nil)) : Int) == 10)) then true else (bif (((Tree.kind t) : Int) == 9) then (((Tree.kind (List.getD (Tree.kids t) (Int.toNat x5) Tree.nil)) : Int) != 1) else false))) = true)) ∧ (((bif (bif ((bif (decide ((2 : Int) ≤ (Tree.kind t))) then (decide (((Tree.kind t) : Int) ≤ 7)) else false) != (((Tree.kind (List.getD (Tree.kids t) (Int.toNat x5) Tree.nil)) : Int) == 10)) then true else (bif (((Tree.kind t) : Int) == 9) then (((Tree.kind (List.getD (Tree.kids t) (Int.toNat x5) Tree.nil)) : Int) != 1) else false)) then true else (bif (bif (decide ((2 : Int) ≤ (Tree.kind t))) then (decide (((Tree.kind t) : Int) ≤ 7)) else false) then (!(fits (((Tree.kind t) : Int) - 2) (List.getD (Tree.words (List.getD (Tree.kids t) (Int.toNat x5) Tree.nil)) (Int.toNat 0) (0 : Int)))) else false)) = true → (Q .ret (⟨[(4, .c (.bool false))], [], []⟩ : LSt U))) ∧ ((bif (bif ((bif (decide ((2 : Int) ≤ (Tree.kind t))) then (decide (((Tree.kind t) : Int) ≤ 7)) else false) != (((Tree.kind (List.getD (Tree.kids t) (Int.toNat x5) Tree.nil)) : Int) == 10)) then true else (bif (((Tree.kind t) : Int) == 9) then (((Tree.kind (List.getD (Tree.kids t) (Int.toNat x5) Tree.nil)) : Int) != 1) else false)) then true else (bif (bif (decide ((2 : Int) ≤ (Tree.kind t))) then (decide (((Tree.kind t) : Int) ≤ 7)) else false) then (!(fits (((Tree.kind t) : Int) - 2) (List.getD (Tree.words (List.getD (Tree.kids t) (Int.toNat x5) Tree.nil)) (Int.toNat 0) (0 : Int)))) else false)) = false → (InR ((x5 : Int) + 1)) ∧ (N0 (head43_0 t d ((x5 : Int) + 1)))))))))) ∧ ((decide ((x5 : Int) < ((Tree.kids t).length : Int))) = false → (Q .ret (⟨[(4, .c (.bool true))], [], []⟩ : LSt U))))) := by kernel_rfl
  exact e.mpr ⟨fun c_26 => ⟨(h.1 c_26).1, ⟨(h.1 c_26).2.1, (h.1 c_26).2.2.1, (h.1 c_26).2.2.2.1, ⟨fun c_27 => ((h.1 c_26).2.2.2.2.1 c_27), fun c_27 => ⟨fun x => x, fun x => x, (by generalize (decide ((2 : Int) ≤ (Tree.kind t))) = b0; revert b0; decide), ⟨fun x => x, fun x => x, fun x => x, fun x => x, fun x => x, (by generalize ((bif (decide ((2 : Int) ≤ (Tree.kind t))) then (decide (((Tree.kind t) : Int) ≤ 7)) else false) != (((Tree.kind (List.getD (Tree.kids t) (Int.toNat x5) Tree.nil)) : Int) == 10)) = b0; revert b0; decide), (by generalize ((bif (decide ((2 : Int) ≤ (Tree.kind t))) then (decide (((Tree.kind t) : Int) ≤ 7)) else false) != (((Tree.kind (List.getD (Tree.kids t) (Int.toNat x5) Tree.nil)) : Int) == 10)) = b0; generalize (((Tree.kind t) : Int) == 9) = b1; revert b0 b1; decide), (by generalize ((bif (decide ((2 : Int) ≤ (Tree.kind t))) then (decide (((Tree.kind t) : Int) ≤ 7)) else false) != (((Tree.kind (List.getD (Tree.kids t) (Int.toNat x5) Tree.nil)) : Int) == 10)) = b0; revert b0; decide), fun x => x, fun x => x, fun x => x, ((h.1 c_26).2.2.2.2.2 c_27).1, fun x => x, fun x => x, ((h.1 c_26).2.2.2.2.2 c_27).2.1, fun x => x, fun x => x, fun x => x, ((h.1 c_26).2.2.2.2.2 c_27).2.2.1, fun x => x, (by generalize ((bif (decide ((2 : Int) ≤ (Tree.kind t))) then (decide (((Tree.kind t) : Int) ≤ 7)) else false) != (((Tree.kind (List.getD (Tree.kids t) (Int.toNat x5) Tree.nil)) : Int) == 10)) = b0; generalize (((Tree.kind (List.getD (Tree.kids t) (Int.toNat x5) Tree.nil)) : Int) != 1) = b1; generalize (((Tree.kind t) : Int) == 9) = b2; revert b0 b1 b2; decide), (by generalize ((bif (decide ((2 : Int) ≤ (Tree.kind t))) then (decide (((Tree.kind t) : Int) ≤ 7)) else false) != (((Tree.kind (List.getD (Tree.kids t) (Int.toNat x5) Tree.nil)) : Int) == 10)) = b0; generalize (((Tree.kind (List.getD (Tree.kids t) (Int.toNat x5) Tree.nil)) : Int) != 1) = b1; generalize (decide ((2 : Int) ≤ (Tree.kind t))) = b2; generalize (decide (((Tree.kind t) : Int) ≤ 7)) = b3; generalize (((Tree.kind t) : Int) == 9) = b4; revert b0 b1 b2 b3 b4; decide), (by generalize ((bif (decide ((2 : Int) ≤ (Tree.kind t))) then (decide (((Tree.kind t) : Int) ≤ 7)) else false) != (((Tree.kind (List.getD (Tree.kids t) (Int.toNat x5) Tree.nil)) : Int) == 10)) = b0; generalize (((Tree.kind (List.getD (Tree.kids t) (Int.toNat x5) Tree.nil)) : Int) != 1) = b1; generalize (((Tree.kind t) : Int) == 9) = b2; revert b0 b1 b2; decide), ⟨fun c_28 => (((h.1 c_26).2.2.2.2.2 c_27).2.2.2.1 c_28), fun c_28 => ⟨(((h.1 c_26).2.2.2.2.2 c_27).2.2.2.2 c_28).1, (((h.1 c_26).2.2.2.2.2 c_27).2.2.2.2 c_28).2⟩⟩⟩⟩⟩⟩⟩, fun c_26 => (h.2 c_26)⟩
def Body43 (N : Nat) (t : Tree) (d : Int)  : Prop := awp cfg (know (know43 N)) (drawOk cfg (know (know43 N))) Try.f43.ntmps lv43 (cd Try.f43 []) (entry (args43.can (t, d, ())) []) (EndsQ cfg Try.f43.ntmps Try.f43.results.toList (res43 (t, d, ())) [])
theorem make43 (c58 : Contract Try.prog cfg 58 spec58) (hb : ∀ (N : Nat) (t : Tree) (d : Int) (_ : Unit), pre43 (t, d, ()) → mu43 (t, d, ()) < N + 1 → Body43 N t d) : Contract Try.prog cfg 43 spec43 :=
  contract_rec (μ := mu43) (l := [(58, spec58)]) cfgOk rfl (⟨c58, trivial⟩) lv43 Try.func43 rfl rfl 2 (fun _ => rfl) (by decide) (fun N ⟨t, d, _⟩ => hb N t d ())

end Go.AM.Ythokdjgpdonhgaa

namespace Go.AM.Ythokdjgpdonhgaa
open Go.AM Go.Proofs

theorem wrap64_div (n : Int) (h0 : 0 ≤ n) (h1 : n < 18446744073709551616) : IntKind.wrap .u64 (Int.tdiv n 2) = n / 2 := by
  rw [Int.tdiv_eq_ediv_of_nonneg h0]
  simp [IntKind.wrap, IntKind.signed, IntKind.bits]
  omega

theorem pow_half {w : Nat} {n m : Int} (h : 0 ≤ n) : (n / 2 < 2 ^ w) ↔ n < 2 ^ (w + 1) := by
  have : (2 : Int) ^ (w + 1) = 2 ^ w * 2 := by rw [Int.pow_succ]
  omega

theorem c58 : Contract Try.prog cfg 58 spec58 := by
  refine make58 c56 ?_
  intro c n _ hp
  simp only [pre58] at hp
  have hw := wd_le c
  refine vc58 _ _ _ ?_
  (simp only [vcS])
  refine ⟨trivial, fun h => ends_bool rfl ?_, fun h => ?_⟩
  · simp only [fits]
    simp
    omega
  · refine loop_rule (ι := Int × Int) (fun p => head58_0 c n p.1 p.2) (fun p => 0 ≤ p.2 ∧ p.2 ≤ wd c ∧ 0 ≤ p.1 ∧ p.1 < 18446744073709551616 ∧ (n < 2 ^ (wd c).toNat ↔ p.1 < 2 ^ (wd c - p.2).toNat)) (fun p => (wd c - p.2).toNat) (n, 0) rfl ⟨by dsimp only; omega, by dsimp only; omega, by dsimp only; omega, by dsimp only; omega, by simp⟩ ?_
    rintro ⟨m, i⟩ ⟨h1, h2, h3, h4, h5⟩
    dsimp only at *
    refine vc58_l0 _ _ _ _ _ _ ?_
    (simp only [vcS])
    refine ⟨fun hc => ⟨by omega, by unfold InR; omega, (IntKind.wrap .u64 (Int.tdiv m 2), i + 1), rfl, ?_, by dsimp only; omega⟩, fun hc => ends_bool rfl ?_⟩
    · rw [wrap64_div m h3 h4]
      refine ⟨by dsimp only; omega, by dsimp only; omega, by dsimp only; omega, by dsimp only; omega, ?_⟩
      dsimp only
      rw [h5, show (wd c - i).toNat = (wd c - (i + 1)).toNat + 1 by omega]
      exact (pow_half (m := 0) h3).symm
    · have e : (wd c - i).toNat = 0 := by omega
      rw [e] at h5
      simp only [fits]
      rw [Bool.eq_iff_iff]
      simp
      omega

theorem rng_word {t : Tree} (h : rng t) {i : Nat} (hi : i < t.words.length) : 0 ≤ t.words.getD i 0 ∧ t.words.getD i 0 < 18446744073709551616 := by
  obtain ⟨k, w, ks⟩ := t
  simp only [rng] at h
  simp only [Tree.words_mk] at *
  have hg : w.getD i 0 ∈ w := by
    simp only [List.getD, List.getElem?_eq_getElem hi, Option.getD_some]
    exact List.getElem_mem hi
  exact h.2.1 _ hg

theorem rightK_drop {l : Int} {ks : List Tree} {i : Int} {d : Int} (h0 : 0 ≤ i) (h : i < ks.length) :
    rightK l (ks.drop i.toNat) d = ((kidB l (ks.getD i.toNat Tree.nil) && rightT (ks.getD i.toNat Tree.nil) d) && rightK l (ks.drop (i + 1).toNat) d) := by
  have e : (i + 1).toNat = i.toNat + 1 := by omega
  rw [List.drop_eq_getElem_cons (by omega), e]
  simp only [rightK, List.getD, List.getElem?_eq_getElem (show i.toNat < ks.length by omega), Option.getD_some]

theorem rngK_get : ∀ {ks : List Tree} {i : Nat}, rngK ks → i < ks.length → rng (ks.getD i Tree.nil)
  | t :: _, 0, h, _ => by simp only [rngK] at h; exact h.1
  | _ :: r, i + 1, h, hi => by simp only [rngK] at h; exact rngK_get (ks := r) (i := i) h.2 (by simpa using hi)

theorem rightT_atom {y : Tree} {d : Int} (h : rightT y d = true) (hk : y.kind = 10) : y.words.length = 1 ∧ y.kids.length = 0 := by
  obtain ⟨k, w, ks⟩ := y
  simp only [Tree.kind_mk] at hk
  subst hk
  simpa [rightT] using h

theorem c43 : Contract Try.prog cfg 43 spec43 := by
  refine make43 c58 ?_
  rintro N ⟨k, ws, ks⟩ d _ hp hN
  simp only [pre43, mu43, mass, rng] at hp hN
  refine vc43 N _ _ _ ?_
  (simp only [vcS])
  (simp only [Tree.eta, Tree.kind_mk, Tree.words_mk, Tree.kids_mk])
  refine ⟨fun h0 => ends_bool rfl ?_, fun h0 => ⟨fun h10 => ends_bool rfl ?_, fun h10 => ⟨fun hc => ends_bool rfl ?_, fun hc => ⟨fun hw => ends_bool rfl ?_, fun hw => ?_⟩⟩⟩⟩
  · simp only [rightT, if_pos h0]
    rw [Bool.eq_iff_iff]; (simp only [vcS]); omega
  · simp only [rightT, if_neg h0, if_pos h10]
    rw [Bool.eq_iff_iff]; (simp only [vcS]); omega
  · simp only [rightT, if_neg h0, if_neg h10]
    split
    · rfl
    · split
      · rw [decide_eq_false (by omega)]; rfl
      · have : ¬(2 ≤ k ∧ k ≤ 9 ∧ ws.length = 0 ∧ ks.length < 1048576) := by omega
        rw [decide_eq_false this]; rfl
  · simp only [rightT, if_neg h0, if_neg h10]
    rw [if_neg (by omega), if_neg (by omega)]
    have : ¬(2 ≤ k ∧ k ≤ 9 ∧ ws.length = 0 ∧ ks.length < 1048576) := by omega
    rw [decide_eq_false this]; rfl
  · have hb : rightT (.mk k ws ks) d = rightK k ks (d - 1) := by
      simp only [rightT, if_neg h0, if_neg h10]
      rw [if_neg (by omega)]
      split
      · rename_i h1
        rw [decide_eq_true (by omega), h1]; rfl
      · have : 2 ≤ k ∧ k ≤ 9 ∧ ws.length = 0 ∧ ks.length < 1048576 := by omega
        rw [decide_eq_true this]; rfl
    refine loop_rule (ι := Int) (fun p => head43_0 (.mk k ws ks) d p) (fun p => 0 ≤ p ∧ p ≤ ks.length ∧ rightT (.mk k ws ks) d = rightK k (ks.drop p.toNat) (d - 1)) (fun p => ((ks.length : Int) - p).toNat) 0 rfl ⟨by omega, by omega, by simpa using hb⟩ ?_
    rintro i ⟨h1, h2, h3⟩
    refine vc43_l0 N _ _ _ _ _ ?_
    (simp only [vcS])
    (simp only [Tree.eta, Tree.kind_mk, Tree.words_mk, Tree.kids_mk])
    refine ⟨fun hi => ?_, fun hi => ?_⟩
    · have hd := rightK_drop (l := k) (d := d - 1) h1 hi
      have hm := massK_get (ks := ks) (i := i.toNat) (by omega)
      have hr := rngK_get (i := i.toNat) hp.2.1.2.2 (by omega)
      rw [hd] at h3
      have hlen := massK_len ks
      generalize ks.getD i.toNat Tree.nil = y at *
      have hpre : pre43 (y, d - 1, ()) := ⟨by dsimp only; omega, hr, by dsimp only; omega, by dsimp only; omega⟩
      have hmu : mu43 (y, d - 1, ()) < N := by simp only [mu43]; omega
      have hin : InR (d - 1) := by unfold InR; omega
      refine ⟨⟨h1, hi⟩, hin, hpre, hmu, fun hf => ends_bool rfl ?_, fun hf => ?_⟩
      · rw [h3, hf]; simp
      · have hdata : ((bif decide (2 ≤ k) then decide (k ≤ 7) else false) = (y.kind == 10)) ↔ ((2 ≤ k ∧ k ≤ 7) ↔ y.kind = 10) := by
          rw [Bool.eq_iff_iff]; (simp only [vcS])
        have hat := rightT_atom hf
        have hkb : kidB k y = true ↔ (((2 ≤ k ∧ k ≤ 7) ↔ y.kind = 10) ∧ (¬k = 9 ∨ y.kind = 1)) ∧ ((¬2 ≤ k ∨ ¬k ≤ 7) ∨ fits (k - 2) (y.words.getD 0 0) = true) := by
          unfold kidB
          by_cases hk : 2 ≤ k ∧ k ≤ 7
          · rw [if_pos hk]
            (simp only [vcS])
            constructor
            · rintro ⟨h4, h5⟩; exact ⟨⟨by omega, by omega⟩, .inr h5⟩
            · rintro ⟨⟨h4, _⟩, h5⟩
              have := hat (by omega)
              exact ⟨by omega, by rcases h5 with h5 | h5; omega; exact h5⟩
          · rw [if_neg hk]
            by_cases h9 : k = 9
            · rw [if_pos h9]
              (simp only [vcS])
              constructor
              · intro h4; exact ⟨⟨by omega, by omega⟩, .inl (by omega)⟩
              · rintro ⟨⟨_, h4⟩, _⟩; omega
            · rw [if_neg h9]
              (simp only [vcS])
              constructor
              · intro h4; exact ⟨⟨by omega, by omega⟩, .inl (by omega)⟩
              · rintro ⟨⟨h4, _⟩, _⟩; omega
        have hone : ∀ (h4 : (((bif decide (2 ≤ k) then decide (k ≤ 7) else false) = (y.kind == 10) ∧ (¬k = 9 ∨ y.kind = 1)) ∧ 2 ≤ k ∧ k ≤ 7)), y.words.length = 1 := fun h4 => (hat ((hdata.1 h4.1.1).1 h4.2)).1
        simp only [Int.toNat_zero]
        refine ⟨fun h4 => by unfold InR; omega, fun h4 => by have := hone h4; omega, fun h4 => rng_word hr (by have := hone h4; omega), fun h4 => ends_bool rfl ?_, fun h4 => ⟨by unfold InR; omega, i + 1, rfl, ⟨by omega, by omega, ?_⟩, by omega⟩⟩
        · have hno : kidB k y = false := by
            cases hkk : kidB k y with
            | false => rfl
            | true =>
              exfalso
              obtain ⟨h5, h6⟩ := hkb.1 hkk
              rcases h4 with h4 | ⟨h4, h7⟩
              · rcases h4 with h4 | h4
                · exact h4 (hdata.2 h5.1)
                · omega
              · rcases h6 with h6 | h6
                · omega
                · rw [h7] at h6; cases h6
          rw [h3, hno]; rfl
        · rw [h3, hkb.2 ⟨⟨hdata.1 h4.1.1, h4.1.2⟩, h4.2⟩, hf]; rfl
    · rw [List.drop_eq_nil_of_le (by omega)] at h3
      simp only [rightK] at h3
      exact ends_bool rfl h3.symm

end Go.AM.Ythokdjgpdonhgaa

namespace Go.AM.Ythokdjgpdonhgaa
open Go.AM Go.Proofs

theorem loopM_next (f : Int → Int → Tree × Int × Int) {n : Int} {i left : Int} (acc : List Tree) (hi : i < n) : loopM f (n - i).toNat i left acc = if (f i left).2.2 = 0 then loopM f (n - (i + 1)).toNat (i + 1) (f i left).2.1 (acc ++ [(f i left).1]) else (acc, (f i left).2) := by
  rw [show (n - i).toNat = (n - (i + 1)).toNat + 1 by omega]
  rfl

theorem b109 : HB109 := by
  intro N l x d left _ hp hN
  obtain ⟨hl, hx, hd, h0, h1, hd0, hk⟩ := hp
  dsimp only at hl hx hd h0 h1 hd0 hk
  have hN' : 2 * d.toNat + 2 < N + 1 := hN
  have hpt := hx.ptrs
  have hr : ∀ {acc : List Tree} {w e : Int}, loopM (fun j left => if (kidX l x j).2 = 0 then mean l d.toNat (kidX l x j).1 left else (Tree.nil, left, (kidX l x j).2)) x.ptrs.toNat 0 left [] = (acc, w, e) → ∀ {s : LSt U},
      EndsQ cfg Try.f109.ntmps Try.f109.results.toList (.tup [(true, enc .tree ⟨1, wordsX l x, acc⟩), (false, [.int .i64 w]), (false, [.int .i64 e])]) [] .ret s → EndsQ cfg Try.f109.ntmps Try.f109.results.toList (res109 (l, x, d, left, ())) [] .ret s := by
    intro acc w e he s hs
    refine ends_eq ?_ hs
    simp only [res109, kidsM]
    rw [he]
    rfl
  refine vc109 _ _ _ _ _ _ ?_
  refine ⟨⟨hl, hx⟩, ?_⟩
  refine loop_rule (ι := Int × Int × List Tree) (fun p => head109_0 l x d left p.1 p.2.1 p.2.2)
    (fun p => 0 ≤ p.1 ∧ p.1 ≤ left ∧ 0 ≤ p.2.1 ∧ p.2.1 ≤ x.ptrs ∧ p.2.2.length = p.2.1 ∧ loopM (fun j left => if (kidX l x j).2 = 0 then mean l d.toNat (kidX l x j).1 left else (Tree.nil, left, (kidX l x j).2)) (x.ptrs - p.2.1).toNat p.2.1 p.1 p.2.2 = loopM (fun j left => if (kidX l x j).2 = 0 then mean l d.toNat (kidX l x j).1 left else (Tree.nil, left, (kidX l x j).2)) x.ptrs.toNat 0 left [])
    (fun p => (x.ptrs - p.2.1).toNat) (left, 0, []) rfl ⟨h0, Int.le_refl _, by dsimp only; omega, hpt.1, rfl, by dsimp only; rw [Int.sub_zero]⟩ ?_
  rintro ⟨w, i, acc⟩ ⟨w0, w1, i0, i1, ha, hL⟩
  dsimp only at w0 w1 i0 i1 ha hL
  refine vc109_l0 _ _ _ _ _ _ _ _ _ _ ?_
  rintro y1 hy1 y2 hy2 y3 hy3
  replace hy1 := hy1.symm
  subst hy1
  (simp only [vcT, bif_tl, bif_fr, bif_tlf, bif_frf, Bool.not_eq_true', Bool.not_eq_false', decide_eq_true_eq, decide_eq_false_iff_not, beq_iff_eq, beq_eq_false_iff_ne, bne_iff_ne, ne_eq, bne_eq_false_iff_eq, Bool.or_eq_true, Bool.and_eq_true, Bool.or_eq_false_iff, Bool.and_eq_false_imp])
  have hkx := okX_kid hl hx i
  refine ⟨fun hi => ⟨⟨hl, hx⟩, fun he => ?_, fun he => ⟨?_, ?_, fun hn => ?_, fun hn => ⟨by simp; omega, by ((unfold InR; omega)), ?_⟩⟩⟩, fun hi => ?_⟩
  · rw [loopM_next _ _ hi] at hL
    simp only [he, if_false] at hL
    exact hr hL.symm (by (repeat' (first | exact trivial | exact rfl | refine And.intro ?_ ?_)))
  · rw [hy2]; exact ⟨hl, hkx, hd, w0, by dsimp only; omega⟩
  · show 2 * d.toNat + 1 < N
    omega
  · rw [loopM_next _ _ hi] at hL
    simp only [he, if_true, ← hy2, if_neg hn] at hL
    exact hr (acc := acc) (w := (mean l d.toNat y2 w).2.1) (e := (mean l d.toNat y2 w).2.2) hL.symm (by (repeat' (first | exact trivial | exact rfl | refine And.intro ?_ ?_)))
  · rw [loopM_next _ _ hi] at hL
    simp only [he, if_true, ← hy2, if_pos hn, ← hy3] at hL
    have hf := mean_fine hl d.toNat y2 w (by rw [hy2]; exact hkx) w0
    exact ⟨((mean l d.toNat y2 w).2.1, i + 1, acc ++ [y3]), rfl, ⟨hf.1, Int.le_trans hf.2 w1, by dsimp only; omega, by dsimp only; omega, by simp; omega, hL⟩, by dsimp only; omega⟩
  · rw [show (x.ptrs - i).toNat = 0 by omega] at hL
    exact hr hL.symm (by (repeat' (first | exact trivial | exact rfl | refine And.intro ?_ ?_)))

theorem b78 : HB78 := by
  intro N l x d left _ hp hN
  obtain ⟨hl, hx, hd, h0, h1⟩ := hp
  dsimp only at hl hx hd h0 h1
  have hN' : 2 * d.toNat + 1 < N + 1 := hN
  have hkl := kidsX_le hx
  have hop := ownX_pos hx
  have hdt := hx.data
  have hpt := hx.ptrs
  have hct := hx.count
  have hr : ∀ {T : Tree} {w e : Int}, mean l d.toNat x left = (T, w, e) → ∀ {s : LSt U},
      EndsQ cfg Try.f78.ntmps Try.f78.results.toList (.tup [(true, enc .tree T), (false, [.int .i64 w]), (false, [.int .i64 e])]) [] .ret s → EndsQ cfg Try.f78.ntmps Try.f78.results.toList (res78 (l, x, d, left, ())) [] .ret s := by
    intro T w e he s hs
    refine ends_eq ?_ hs
    simp only [res78]
    rw [he]
    rfl
  have cut1 : ¬x.kind = 0 → (1 ≤ d ∧ (x.kind = 9 → 0 < x.count → 2 ≤ d)) → A78 N [1, 1, 1, 1, 1, 1, 1] (head78_1 l x d left (ownX x)) (EndsQ cfg Try.f78.ntmps Try.f78.results.toList (res78 (l, x, d, left, ())) []) := by
    intro hk0 hdd
    have hD : 1 ≤ d.toNat := by omega
    refine vc78_c1 _ _ _ _ _ _ _ ?_
    (simp only [vcT, bif_tl, bif_fr, bif_tlf, bif_frf, Bool.not_eq_true', Bool.not_eq_false', decide_eq_true_eq, decide_eq_false_iff_not, beq_iff_eq, beq_eq_false_iff_ne, bne_iff_ne, ne_eq, bne_eq_false_iff_eq, Bool.or_eq_true, Bool.and_eq_true, Bool.or_eq_false_iff, Bool.and_eq_false_imp])
    refine ⟨fun h => ?_, fun h => ⟨by ((unfold InR; omega)), ?_⟩⟩
    · refine hr (T := ⟨x.kind, wordsX l x, []⟩) (w := left) (e := 3) ?_ (by (repeat' (first | exact trivial | exact rfl | refine And.intro ?_ ?_)))
      rw [mean_eq hD]
      unfold stepM
      rw [if_neg hk0, if_pos (.inr (.inr h))]
    have hM : mean l d.toNat x left = (⟨x.kind, wordsX l x, (loopM (kidM l (mean l (d.toNat - 1)) (mean l (d.toNat - 2)) x) (kidsX x).toNat 0 (left - ownX x) []).1⟩, (loopM (kidM l (mean l (d.toNat - 1)) (mean l (d.toNat - 2)) x) (kidsX x).toNat 0 (left - ownX x) []).2) := by
      rw [mean_eq hD]
      unfold stepM
      rw [if_neg hk0, if_neg]
      rintro (q | q | q)
      · omega
      · have := hdd.2 q.1 q.2.1
        have := q.2.2
        omega
      · omega
    have hr2 : ∀ {acc : List Tree} {w e : Int}, loopM (kidM l (mean l (d.toNat - 1)) (mean l (d.toNat - 2)) x) (kidsX x).toNat 0 (left - ownX x) [] = (acc, w, e) → ∀ {s : LSt U},
        EndsQ cfg Try.f78.ntmps Try.f78.results.toList (.tup [(true, enc .tree ⟨x.kind, wordsX l x, acc⟩), (false, [.int .i64 w]), (false, [.int .i64 e])]) [] .ret s → EndsQ cfg Try.f78.ntmps Try.f78.results.toList (res78 (l, x, d, left, ())) [] .ret s := by
      intro acc w e he s hs
      refine hr (T := ⟨x.kind, wordsX l x, acc⟩) (w := w) (e := e) ?_ hs
      rw [hM, he]
    refine loop_rule (ι := Int × Int × List Tree) (fun p => head78_2 l x d left p.1 p.2.1 p.2.2)
      (fun p => 0 ≤ p.1 ∧ p.1 ≤ left ∧ 0 ≤ p.2.1 ∧ p.2.1 ≤ kidsX x ∧ p.2.2.length = p.2.1 ∧ loopM (kidM l (mean l (d.toNat - 1)) (mean l (d.toNat - 2)) x) (kidsX x - p.2.1).toNat p.2.1 p.1 p.2.2 = loopM (kidM l (mean l (d.toNat - 1)) (mean l (d.toNat - 2)) x) (kidsX x).toNat 0 (left - ownX x) [])
      (fun p => (kidsX x - p.2.1).toNat) (left - ownX x, 0, []) rfl ⟨by dsimp only; omega, by dsimp only; omega, by dsimp only; omega, hkl.1, rfl, by dsimp only; rw [Int.sub_zero]⟩ ?_
    rintro ⟨w, i, acc⟩ ⟨w0, w1, i0, i1, ha, hL⟩
    dsimp only at w0 w1 i0 i1 ha hL
    have hkx := okX_kid hl hx i
    refine vc78_l2 _ _ _ _ _ _ _ _ _ _ ?_
    rintro y1 hy1 y2 hy2
    replace hy1 := hy1.symm
    subst hy1
    (simp only [vcT, bif_tl, bif_fr, bif_tlf, bif_frf, Bool.not_eq_true', Bool.not_eq_false', decide_eq_true_eq, decide_eq_false_iff_not, beq_iff_eq, beq_eq_false_iff_ne, bne_iff_ne, ne_eq, bne_eq_false_iff_eq, Bool.or_eq_true, Bool.and_eq_true, Bool.or_eq_false_iff, Bool.and_eq_false_imp])
    have hk29 : kidsX x < 536870912 := by unfold kidsX; split <;> omega
    have key : ∀ (r : Tree × Int × Int) (v : V U), i < kidsX x → kidM l (mean l (d.toNat - 1)) (mean l (d.toNat - 2)) x i w = r → ∀ N2 : LSt U → Prop, (∀ p : Int × Int × List Tree, (0 ≤ p.1 ∧ p.1 ≤ left ∧ 0 ≤ p.2.1 ∧ p.2.1 ≤ kidsX x ∧ p.2.2.length = p.2.1 ∧ loopM (kidM l (mean l (d.toNat - 1)) (mean l (d.toNat - 2)) x) (kidsX x - p.2.1).toNat p.2.1 p.1 p.2.2 = loopM (kidM l (mean l (d.toNat - 1)) (mean l (d.toNat - 2)) x) (kidsX x).toNat 0 (left - ownX x) []) → (kidsX x - p.2.1).toNat < (kidsX x - i).toNat → N2 (head78_2 l x d left p.1 p.2.1 p.2.2)) →
        A78 N [1, 1, 1, 1, 1, 1, 1, 1, 1, 0, 1, 0, 0, 1, 0, 0, 1, 1, 1, 1] (head78_3 l x d left i acc r.2.1 r.2.2 r.1.kind r.1.words r.1.kids v)
          (AExit.inBlock 1 (S78 N [1, 1, 1, 1, 1, 1, 1, 1, 1, 0, 1, 0, 0, 1, 1] (AExit.then N2 (AExit.inBlock 0 (S78 N [1, 1, 1, 1, 1, 1, 1, 1, 1, 1] (EndsQ cfg Try.f78.ntmps Try.f78.results.toList (res78 (l, x, d, left, ())) [])))))) := by
      intro r v hi hf N2 hN2
      refine vc78_c3 _ _ _ _ _ _ _ _ _ _ _ _ _ _ _ ?_
      (simp only [vcT, bif_tl, bif_fr, bif_tlf, bif_frf, Bool.not_eq_true', Bool.not_eq_false', decide_eq_true_eq, decide_eq_false_iff_not, beq_iff_eq, beq_eq_false_iff_ne, bne_iff_ne, ne_eq, bne_eq_false_iff_eq, Bool.or_eq_true, Bool.and_eq_true, Bool.or_eq_false_iff, Bool.and_eq_false_imp])
      rw [loopM_next _ _ hi, hf] at hL
      refine ⟨fun he => ?_, fun he => ⟨by simp; omega, ?_⟩⟩
      · rw [if_neg he] at hL
        exact hr2 (acc := acc) (w := r.2.1) (e := r.2.2) hL.symm (by (repeat' (first | exact trivial | exact rfl | refine And.intro ?_ ?_)))
      · rw [if_pos he] at hL
        have hfi := kidM_fine hl (mean_fine hl (d.toNat - 1)) (mean_fine hl (d.toNat - 2)) hx i w w0
        rw [hf] at hfi
        refine vc78_c4 _ _ _ _ _ _ _ _ _ _ _ _ _ ?_
        refine ⟨by ((unfold InR; omega)), hN2 (r.2.1, i + 1, acc ++ [Tree.mk r.1.kind r.1.words r.1.kids]) ⟨hfi.1, Int.le_trans hfi.2 w1, by dsimp only; omega, by dsimp only; omega, by simp; omega, ?_⟩ (by dsimp only; omega)⟩
        dsimp only
        rw [Tree.eta]
        exact hL
    have hN2 : ∀ p : Int × Int × List Tree, (0 ≤ p.1 ∧ p.1 ≤ left ∧ 0 ≤ p.2.1 ∧ p.2.1 ≤ kidsX x ∧ p.2.2.length = p.2.1 ∧ loopM (kidM l (mean l (d.toNat - 1)) (mean l (d.toNat - 2)) x) (kidsX x - p.2.1).toNat p.2.1 p.1 p.2.2 = loopM (kidM l (mean l (d.toNat - 1)) (mean l (d.toNat - 2)) x) (kidsX x).toNat 0 (left - ownX x) []) → True := fun _ _ => trivial
    refine ⟨trivial, fun hi => ⟨⟨hl, hx⟩, fun he => ?_, fun he => ⟨?_, fun k9 => ⟨by ((unfold InR; omega)), ?_, ?_, ?_⟩, fun k9 => ⟨fun k18 => ⟨by ((unfold InR; omega)), ?_, ?_, ?_⟩, fun k18 => ?_⟩⟩⟩, fun hi => ?_⟩
    · rw [loopM_next _ _ hi] at hL
      rw [show kidM l (mean l (d.toNat - 1)) (mean l (d.toNat - 2)) x i w = (Tree.nil, w, (kidX l x i).2) by unfold kidM; rw [if_neg he]] at hL
      rw [if_neg he] at hL
      exact hr2 hL.symm (by (repeat' (first | exact trivial | exact rfl | refine And.intro ?_ ?_)))
    · rw [hy2]; exact ⟨hl, hkx⟩
    · rw [hy2]
      refine ⟨hl, hkx, by dsimp only; omega, w0, by dsimp only; omega, ?_, ?_⟩
      · have : kidsX x = x.count := by unfold kidsX; rw [if_neg (by omega)]
        have := hdd.2 k9 (by omega)
        show 0 ≤ d - 2
        omega
      · show (kidX l x i).1.kind = 1
        unfold kidX
        rw [if_neg (by omega), if_neg (by omega), if_neg (by omega), if_pos k9]
    · show 2 * (d - 2).toNat + 2 < N
      have : kidsX x = x.count := by unfold kidsX; rw [if_neg (by omega)]
      have := hdd.2 k9 (by omega)
      omega
    · rw [show (d - 2).toNat = d.toNat - 2 by omega, hy2]
      exact key _ _ hi (by unfold kidM; rw [if_pos he, if_pos k9]) _ (fun p h h' => ⟨p, rfl, h, h'⟩)
    · rw [hy2]; exact ⟨hl, hkx, by dsimp only; omega, w0, by dsimp only; omega⟩
    · show 2 * (d - 1).toNat + 1 < N
      omega
    · rw [show (d - 1).toNat = d.toNat - 1 by omega, hy2]
      exact key _ _ hi (by unfold kidM; rw [if_pos he, if_neg k9, if_pos k18]) _ (fun p h h' => ⟨p, rfl, h, h'⟩)
    · rw [hy2, he]
      exact key (⟨(kidX l x i).1.kind, wordsX l (kidX l x i).1, []⟩, w, 0) _ hi (by unfold kidM; rw [if_pos he, if_neg k9, if_neg (by omega)]) _ (fun p h h' => ⟨p, rfl, h, h'⟩)
    · rw [show (kidsX x - i).toNat = 0 by omega] at hL
      exact hr2 (acc := acc) (w := w) (e := 0) hL.symm (by (repeat' (first | exact trivial | exact rfl | refine And.intro ?_ ?_)))
  have cut0 : ∀ n : Int, (x.kind ≠ 9 → n = ownX x) → ¬x.kind = 0 → (1 ≤ d ∧ (x.kind = 9 → 0 < x.count → 2 ≤ d)) → A78 N [1, 1, 1, 1, 1, 1] (head78_0 l x d left n) (EndsQ cfg Try.f78.ntmps Try.f78.results.toList (res78 (l, x, d, left, ())) []) := by
    intro n hn hk0 hdd
    refine vc78_c0 _ _ _ _ _ _ _ ?_
    (simp only [vcT, bif_tl, bif_fr, bif_tlf, bif_frf, Bool.not_eq_true', Bool.not_eq_false', decide_eq_true_eq, decide_eq_false_iff_not, beq_iff_eq, beq_eq_false_iff_ne, bne_iff_ne, ne_eq, bne_eq_false_iff_eq, Bool.or_eq_true, Bool.and_eq_true, Bool.or_eq_false_iff, Bool.and_eq_false_imp])
    have e3 := Int.mul_nonneg hct.1 (show 0 ≤ 1 + x.data + x.ptrs by omega)
    have e4 := Int.mul_le_mul (Int.le_of_lt hct.2) (show 1 + x.data + x.ptrs ≤ 131072 by omega) (by omega) (by decide : (0 : Int) ≤ 536870912)
    refine ⟨fun k9 => ⟨by ((unfold InR; omega)), by ((unfold InR; omega)), by ((unfold InR; omega)), by ((unfold InR; omega)), ?_⟩, fun k9 => ?_⟩
    · rw [show 1 + x.count * (1 + x.data + x.ptrs) = ownX x by unfold ownX; rw [if_neg (by omega), if_pos k9]]
      exact cut1 hk0 hdd
    · rw [hn k9]
      exact cut1 hk0 hdd
  refine vc78 _ _ _ _ _ _ ?_
  rintro y1 hy1
  replace hy1 := hy1.symm
  dsimp only at hy1
  subst hy1
  (simp only [vcT, bif_tl, bif_fr, bif_tlf, bif_frf, Bool.not_eq_true', Bool.not_eq_false', decide_eq_true_eq, decide_eq_false_iff_not, beq_iff_eq, beq_eq_false_iff_ne, bne_iff_ne, ne_eq, bne_eq_false_iff_eq, Bool.or_eq_true, Bool.and_eq_true, Bool.or_eq_false_iff, Bool.and_eq_false_imp])
  refine ⟨⟨hl, hx⟩, fun h => ?_, fun hk0 => ⟨fun a b => ⟨a, b⟩, fun a b => ⟨a, b⟩, fun h => ?_, fun h => ⟨trivial, ?_, fun k1 => ⟨by ((unfold InR; omega)), by ((unfold InR; omega)), ?_⟩, fun k1 => ?_⟩⟩⟩
  · refine hr (T := ⟨0, wordsX l x, []⟩) (w := left) (e := 0) ?_ ?_
    · rw [show x = xz from hx.null h, mean_null]; rfl
    · rw [h]; (repeat' (first | exact trivial | exact rfl | refine And.intro ?_ ?_))
  · refine hr (T := ⟨x.kind, wordsX l x, []⟩) (w := left) (e := 3) ?_ (by (repeat' (first | exact trivial | exact rfl | refine And.intro ?_ ?_)))
    by_cases hD : 1 ≤ d.toNat
    · rw [mean_eq hD]
      unfold stepM
      rw [if_neg hk0, if_pos]
      rcases h with h | h
      · omega
      · exact .inr (.inl ⟨h.1.1, h.1.2, by omega⟩)
    · rw [show d.toNat = 0 by omega, mean_zero, if_neg hk0]
  · have hk29 : kidsX x < 536870912 := by unfold kidsX; split <;> omega
    ((unfold InR; omega))
  · exact cut0 _ (fun _ => by unfold ownX; rw [if_pos k1]) hk0 ⟨by omega, fun a b => by omega⟩
  · exact cut0 _ (fun k9 => by unfold ownX kidsX; rw [if_neg k1, if_neg k9, if_neg k1]) hk0 ⟨by omega, fun a b => by omega⟩

theorem c78_ : Contract Try.prog cfg 78 spec78 ∧ Contract Try.prog cfg 109 spec109 := make78_109 c67 c29 c30 b78 b109
theorem c78 : Contract Try.prog cfg 78 spec78 := c78_.1

end Go.AM.Ythokdjgpdonhgaa

namespace Go.AM.Ythokdjgpdonhgaa
open Go.AM Go.Proofs

def args42 : ArgL (Unit) := .nil
def pre42 (a : Unit) : Prop := True
noncomputable def res42 (a : Unit) : V U := .c (.bool true)
noncomputable def spec42 : Fs U := fs args42 (fun a => [pre42 a]) res42

noncomputable def know42 : List (FuncId × Fs U) := [(20, spec20), (40, spec40)]
def lv42 : Lives U := fun i => match i with
  | 0 => ([], [])
  | 1 => ([(1, [])], [])
  | 2 => ([(1, []), (2, []), (3, [])], [])
  | 3 => ([(2, []), (3, []), (5, [])], [])
  | 4 => ([(0, [])], [])
  | _ => ([], [])
noncomputable abbrev A42 (p : List Nat) := awp cfg (know know42) (drawOk cfg (know know42)) Try.f42.ntmps lv42 (cd Try.f42 p)
theorem vc42 (Q : AExit → LSt U → Prop) (h : ((pre20 (([[4294967296, 7]]), ())) ∧ ((pre40 ((some (Arena.mk ([[4294967296, 7]]) 0 0 0)), (Limits.mk 1 2 0 0), ())) ∧ ((pre40 ((some (Arena.mk ([[4294967296, 7]]) 0 0 0)), (Limits.mk 1 1 0 0), ())) ∧ ((Tr (((((unfV (segO (some (Arena.mk ([[4294967296, 7]]) 0 0 0))) (Limits.mk 1 2 0 0)).2.1) : Int) == 2) = true)) ∧ ((Tr (((((unfV (segO (some (Arena.mk ([[4294967296, 7]]) 0 0 0))) (Limits.mk 1 2 0 0)).2.1) : Int) == 2) = true))) ∧ (Tr ((bif ((((unfV (segO (some (Arena.mk ([[4294967296, 7]]) 0 0 0))) (Limits.mk 1 2 0 0)).2.1) : Int) == 2) then ((((unfV (segO (some (Arena.mk ([[4294967296, 7]]) 0 0 0))) (Limits.mk 1 2 0 0)).2.2) : Int) == 0) else false) = true)) ∧ ((Tr ((bif ((((unfV (segO (some (Arena.mk ([[4294967296, 7]]) 0 0 0))) (Limits.mk 1 2 0 0)).2.1) : Int) == 2) then ((((unfV (segO (some (Arena.mk ([[4294967296, 7]]) 0 0 0))) (Limits.mk 1 2 0 0)).2.2) : Int) == 0) else false) = true))) ∧ (Q .ret (⟨[(0, .c (.bool (bif (bif ((((unfV (segO (some (Arena.mk ([[4294967296, 7]]) 0 0 0))) (Limits.mk 1 2 0 0)).2.1) : Int) == 2) then ((((unfV (segO (some (Arena.mk ([[4294967296, 7]]) 0 0 0))) (Limits.mk 1 2 0 0)).2.2) : Int) == 0) else false) then ((((unfV (segO (some (Arena.mk ([[4294967296, 7]]) 0 0 0))) (Limits.mk 1 1 0 0)).2.2) : Int) == 3) else false)))], [], []⟩ : LSt U))))))) :
    A42 [] (⟨[], [], []⟩ : LSt U) Q :=
  Eq.mpr (by kernel_rfl) h
def Body42  : Prop := awp cfg (know (know42)) (drawOk cfg (know (know42))) Try.f42.ntmps lv42 (cd Try.f42 []) (entry (args42.can (())) []) (EndsQ cfg Try.f42.ntmps Try.f42.results.toList (res42 (())) [])
theorem make42 (c20 : Contract Try.prog cfg 20 spec20) (c40 : Contract Try.prog cfg 40 spec40) (hb : ∀ (_ : Unit), pre42 (()) → Body42 ) : Contract Try.prog cfg 42 spec42 :=
  contract_flat (l := [(20, spec20), (40, spec40)]) cfgOk rfl (⟨c20, c40, trivial⟩) lv42 Try.func42 rfl rfl 0 (fun _ => rfl) (by decide) (fun _ => hb  ())

end Go.AM.Ythokdjgpdonhgaa

namespace Go.AM.Ythokdjgpdonhgaa
open Go.AM Go.Proofs

theorem c41 : Contract Try.prog cfg 41 spec41 := by
  refine make41 c47 c27 c78 ?_
  intro l x _ hl
  simp only [pre41] at hl
  refine vc41 _ _ _ ?_
  rintro y hy z hz m hm
  dsimp only at hy hz hm
  replace hy := hy.symm
  subst hy
  have hx := okX_at hl 0 0
  have hlv := limV_ok x
  (simp only [vcT, bif_tl, bif_fr, bif_tlf, bif_frf, Bool.not_eq_true', Bool.not_eq_false', decide_eq_true_eq, decide_eq_false_iff_not, beq_iff_eq, beq_eq_false_iff_ne, bne_iff_ne, ne_eq, bne_eq_false_iff_eq, Bool.or_eq_true, Bool.and_eq_true, Bool.or_eq_false_iff, Bool.and_eq_false_imp])
  have hr : ∀ {T : Tree} {w e : Int}, unfV l x = (T, w, e) → ∀ {s : LSt U},
      EndsQ cfg Try.f41.ntmps Try.f41.results.toList (.tup [(true, enc .tree T), (false, [.int .i64 w]), (false, [.int .i64 e])]) [] .ret s → EndsQ cfg Try.f41.ntmps Try.f41.results.toList (res41 (l, x, ())) [] .ret s := by
    intro T w e he s hs
    refine ends_eq ?_ hs
    simp only [res41]
    rw [he]
    rfl
  have hwf := mean_fine hl (limV x).depth.toNat _ (limV x).weight hx hlv.2.2.1
  rw [← hz, ← hm] at hwf
  refine ⟨trivial, hl, fun h => ?_, fun h => ?_⟩
  · exact hr (T := Tree.nil) (w := 0) (e := (refAt l 0 0).2) (by unfold unfV; rw [if_neg h]) (by (repeat' (first | exact trivial | exact rfl | refine And.intro ?_ ?_)))
  · refine ⟨⟨hl, by rw [hz]; exact hx, hlv.2.1, hlv.2.2⟩, fun h2 => ?_, fun h2 => ⟨by have := hwf.1; have := hwf.2; ((unfold InR; omega)), ?_⟩⟩
    · exact hr (T := Tree.nil) (w := 0) (e := m.2.2) (by unfold unfV; rw [if_pos h, ← hz, ← hm, if_neg h2]) (by (repeat' (first | exact trivial | exact rfl | refine And.intro ?_ ?_)))
    · exact hr (T := m.1) (w := (limV x).weight - m.2.1) (e := 0) (by unfold unfV; rw [if_pos h, ← hz, ← hm, if_pos h2]) (by (repeat' (first | exact trivial | exact rfl | refine And.intro ?_ ?_)))

theorem c42 : Contract Try.prog cfg 42 spec42 := by
  refine make42 c20 c40 ?_
  intro _ _
  refine vc42 _ ?_
  have e1 : unfV (segO (some (Arena.mk [[4294967296, 7]] 0 0 0))) (Limits.mk 1 2 0 0) = (⟨1, [7], []⟩, 2, 0) := by rfl
  have e2 : unfV (segO (some (Arena.mk [[4294967296, 7]] 0 0 0))) (Limits.mk 1 1 0 0) = (Tree.nil, 0, 3) := by rfl
  rw [e1, e2]
  (simp only [vcT, bif_tl, bif_fr, bif_tlf, bif_frf, Bool.not_eq_true', Bool.not_eq_false', decide_eq_true_eq, decide_eq_false_iff_not, beq_iff_eq, beq_eq_false_iff_ne, bne_iff_ne, ne_eq, bne_eq_false_iff_eq, Bool.or_eq_true, Bool.and_eq_true, Bool.or_eq_false_iff, Bool.and_eq_false_imp])
  refine ⟨aw_ok, aw_ok, aw_ok, ?_⟩
  exact ends_bool rfl rfl

end Go.AM.Ythokdjgpdonhgaa
