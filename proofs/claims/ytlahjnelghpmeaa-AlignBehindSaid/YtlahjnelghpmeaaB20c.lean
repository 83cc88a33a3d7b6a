/- Chapter 20: the bodies: what edits are right, and good. -/
import Derived.Test.YtlahjnelghpmeaaG20b
import Derived.Test.YtlahjnelghpmeaaB20b
set_option linter.unusedSimpArgs false
set_option linter.unusedVariables false
namespace Go.AM.Ytlahjnelghpmeaa
open Go.AM Go.Proofs

theorem rightE_at (e : Edit) (d : Int) : rightE e d =
    if d = 0 ∨ e.kind < 0 ∨ 3 < e.kind then false
    else if (e.kind ≠ 1 ∧ ¬(noneT e.old = true ∧ noneT e.new = true)) ∨ (e.kind ≠ 2 ∧ ¬(e.words.length = 0 ∧ e.kids.length = 0)) ∨ (e.kind ≠ 3 ∧ (e.list ≠ 0 ∨ e.ops.length ≠ 0)) then false
    else if e.kind = 1 then rightT e.old 64 && rightT e.new 64 && decide (e.old.kind ≠ 10 ∧ e.new.kind ≠ 10)
    else wordsOk (-1) e.words && rightKs (-1) e.kids (d - 1) && decide (¬(e.kind = 3 ∧ (e.list < 2 ∨ 9 < e.list))) && rightOs e.list e.ops (d - 1) && decide (lenA e.ops 0 < 1048576 ∧ lenB e.ops 0 < 1048576) := by
  obtain ⟨k, o, nw, w, ks, l, os⟩ := e; rfl

theorem rightKid_at (last : Int) (k : Kid) (d : Int) : rightKid last k d = (decide (last < k.at_ ∧ k.at_ ≤ 65534 ∧ k.e.kind ≠ 0) && rightE k.e d) := by cases k; rfl

theorem rightOp_at (list : Int) (o : Op) (d : Int) : rightOp list o d =
    if o.kind = 0 then decide (1 ≤ o.n ∧ o.n ≤ 1048576 ∧ o.l.length = 0) && sameE o.e
    else if o.n ≠ 0 ∨ o.kind < 0 ∨ 3 < o.kind then false
    else if o.kind < 3 then treesOk list o.l && decide (0 < o.l.length) && sameE o.e
    else decide (o.l.length = 0 ∧ o.e.kind ≠ 0 ∧ 7 < list) && rightE o.e d && decide (list = 8 ∨ o.e.kind = 2 ∨ o.e.kind = 1 ∧ o.e.old.kind = 1 ∧ o.e.new.kind = 1) := by
  cases o; rfl

theorem rightOp_n {list : Int} {o : Op} {d : Int} (h : rightOp list o d = true) : 0 ≤ o.n ∧ o.n ≤ 1048576 := by
  rw [rightOp_at] at h
  split at h
  · simp only [Bool.and_eq_true, decide_eq_true_eq] at h; omega
  · split at h
    · cases h
    · rename_i h1; omega

theorem rightOs_mem {list d : Int} : ∀ {os : List Op} {o : Op}, rightOs list os d = true → o ∈ os → rightOp list o d = true
  | x :: r, o, h, hm => by
    simp only [rightOs, Bool.and_eq_true] at h
    rcases List.mem_cons.1 hm with rfl | hm
    · exact h.1
    · exact rightOs_mem h.2 hm

theorem rightKs_mem {d : Int} : ∀ {ks : List Kid} {last : Int} {k : Kid}, rightKs last ks d = true → k ∈ ks → rightE k.e d = true ∧ k.e.kind ≠ 0
  | x :: r, last, k, h, hm => by
    simp only [rightKs, Bool.and_eq_true] at h
    rcases List.mem_cons.1 hm with rfl | hm
    · have := h.1; rw [rightKid_at] at this; simp only [Bool.and_eq_true, decide_eq_true_eq] at this; exact ⟨this.2, this.1.2.2⟩
    · exact rightKs_mem h.2 hm

theorem rngE_at {e : Edit} (h : rngE e) : isI e.kind ∧ rng e.old ∧ rng e.new ∧ (∀ x ∈ e.words, rngW x) ∧ isI e.list ∧ rngKs e.kids ∧ rngOs e.ops := by
  obtain ⟨k, o, n, w, ks, l, os⟩ := e; exact h

theorem b59 : HB59 := by
  intro N e d _ hp hN
  simp only [pre59, mu59] at hp hN
  obtain ⟨⟨hm, hr⟩, hd0, hd1⟩ := hp
  obtain ⟨ik, ro, rn, rw', il, rk, ros⟩ := rngE_at hr
  have hme := len_massE e
  have hkl := massKs_len e.kids
  have hol := massOs_len e.ops
  have hat := rightE_at e d
  refine vc59 N e d _ ?_
  (simp only [bif_tl, bif_fr, bif_tlf, bif_frf, Bool.not_eq_true', Bool.not_eq_false', decide_eq_true_eq, decide_eq_false_iff_not, beq_iff_eq, beq_eq_false_iff_ne, bne_iff_ne, ne_eq, bne_eq_false_iff_eq, Bool.or_eq_true, Bool.and_eq_true, Bool.or_eq_false_iff, Bool.and_eq_false_imp])
  (simp only [Tree.eta, Edit.eta, Tree.kind_mk, Tree.words_mk, Tree.kids_mk])
  refine ⟨fun hc => ends_bool rfl (by rw [hat, if_pos (by omega)]), fun hc => ?_⟩
  rw [if_neg (by omega)] at hat
  refine ⟨fun _ => by simp only [pre88]; omega, fun _ => by simp only [pre88]; omega, fun _ => by unfold InR; omega, fun hf => ends_bool rfl ?_, fun hf => ⟨fun h1 => ⟨⟨by dsimp only; omega, ro, by dsimp only; omega, by dsimp only; omega⟩, fun _ => ⟨by dsimp only; omega, rn, by dsimp only; omega, by dsimp only; omega⟩, ends_bool rfl ?_⟩, fun h1 => ?_⟩⟩
  · rw [hat, if_pos]
    rcases hf with (hf | hf) | hf
    · left
      refine ⟨hf.1, fun h => ?_⟩
      rcases hf.2 with h2 | h2
      · rw [h.1] at h2; cases h2
      · rw [h.2] at h2; cases h2
    · right; left; omega
    · right; right; omega
  · rw [hat, if_neg, if_pos h1, Bool.eq_iff_iff]
    · (simp only [bif_tl, bif_fr, bif_tlf, bif_frf, Bool.not_eq_true', Bool.not_eq_false', decide_eq_true_eq, decide_eq_false_iff_not, beq_iff_eq, beq_eq_false_iff_ne, bne_iff_ne, ne_eq, bne_eq_false_iff_eq, Bool.or_eq_true, Bool.and_eq_true, Bool.or_eq_false_iff, Bool.and_eq_false_imp])
      constructor
      · rintro ⟨⟨⟨h2, h3⟩, h4⟩, h5⟩; exact ⟨⟨h2, h3⟩, h4, h5⟩
      · rintro ⟨⟨h2, h3⟩, h4, h5⟩; exact ⟨⟨⟨h2, h3⟩, h4⟩, h5⟩
    · intro h
      rcases h with h | h | h
      · exact h.1 h1
      · omega
      · omega
  · rw [if_neg, if_neg h1] at hat
    · refine loop_rule (ι := Int × Int) (fun p => head59_0 e d p.1 p.2) (fun p => 0 ≤ p.2 ∧ p.2 ≤ e.words.length ∧ wordsOk p.1 (e.words.drop p.2.toNat) = wordsOk (-1) e.words) (fun p => ((e.words.length : Int) - p.2).toNat) (-1, 0) rfl ⟨by dsimp only; omega, by dsimp only; omega, by simp⟩ ?_
      rintro ⟨last, i⟩ ⟨h2, h3, h4⟩
      dsimp only at *
      refine vc59_l0 N e d last i _ _ ?_
      (simp only [bif_tl, bif_fr, bif_tlf, bif_frf, Bool.not_eq_true', Bool.not_eq_false', decide_eq_true_eq, decide_eq_false_iff_not, beq_iff_eq, beq_eq_false_iff_ne, bne_iff_ne, ne_eq, bne_eq_false_iff_eq, Bool.or_eq_true, Bool.and_eq_true, Bool.or_eq_false_iff, Bool.and_eq_false_imp])
      try (simp only [Tree.eta, Edit.eta, Tree.kind_mk, Tree.words_mk, Tree.kids_mk])
      refine ⟨fun hi => ?_, fun hi => ?_⟩
      · have hmem := mem_getD (l := e.words) (i := i.toNat) (by omega) (WEdit.mk 0 0 0 0)
        have hrw := rw' _ hmem
        rw [dropI h2 hi (WEdit.mk 0 0 0 0)] at h4
        simp only [wordsOk] at h4
        generalize e.words.getD i.toNat (WEdit.mk 0 0 0 0) = w at *
        obtain ⟨_, hmk, hwo, hwn⟩ := hrw
        refine ⟨⟨h2, hi⟩, fun _ => ⟨hwo, hmk⟩, fun _ => ⟨hwn, hmk⟩, fun hq => ends_bool rfl ?_, fun hq => ⟨by unfold InR; omega, (_, i + 1), rfl, ⟨by dsimp only; omega, by dsimp only; omega, ?_⟩, by dsimp only; omega⟩⟩
        · rw [hat, ← h4]
          rcases hq with (hq | hq) | hq
          · rw [decide_eq_false (by omega)]; rfl
          · rw [hq]; simp
          · rw [hq]; simp
        · dsimp only
          rw [← h4, decide_eq_true (by omega), hq.1.2, hq.2]; rfl
      · have hw : wordsOk (-1) e.words = true := by
          rw [← h4, List.drop_of_length_le (by omega)]; rfl
        rw [hw, Bool.true_and] at hat
        refine loop_rule (ι := Int × Int) (fun p => head59_1 e d p.1 p.2) (fun p => 0 ≤ p.2 ∧ p.2 ≤ e.kids.length ∧ rightKs p.1 (e.kids.drop p.2.toNat) (d - 1) = rightKs (-1) e.kids (d - 1)) (fun p => ((e.kids.length : Int) - p.2).toNat) (-1, 0) rfl ⟨by dsimp only; omega, by dsimp only; omega, by simp⟩ ?_
        rintro ⟨last, i⟩ ⟨h2, h3, h4⟩
        dsimp only at *
        refine vc59_l1 N e d last i _ _ ?_
        (simp only [bif_tl, bif_fr, bif_tlf, bif_frf, Bool.not_eq_true', Bool.not_eq_false', decide_eq_true_eq, decide_eq_false_iff_not, beq_iff_eq, beq_eq_false_iff_ne, bne_iff_ne, ne_eq, bne_eq_false_iff_eq, Bool.or_eq_true, Bool.and_eq_true, Bool.or_eq_false_iff, Bool.and_eq_false_imp])
        try (simp only [Tree.eta, Edit.eta, Tree.kind_mk, Tree.words_mk, Tree.kids_mk])
        refine ⟨fun hi => ?_, fun hi => ?_⟩
        · have hmem := mem_getD (l := e.kids) (i := i.toNat) (by omega) (KidOf.mk 0 Edit.nil)
          have hrw := rngKs_mem rk hmem
          have hmm := massKs_mem hmem
          rw [dropI h2 hi (KidOf.mk 0 Edit.nil)] at h4
          simp only [rightKs, rightKid_at] at h4
          generalize e.kids.getD i.toNat (KidOf.mk 0 Edit.nil) = w at *
          refine ⟨⟨h2, hi⟩, fun _ => by unfold InR; omega, fun _ => ⟨⟨by dsimp only; omega, hrw.2⟩, by dsimp only; omega, by dsimp only; omega⟩, fun _ => by simp only [mu59]; omega, fun hq => ends_bool rfl ?_, fun hq => ⟨by unfold InR; omega, (_, i + 1), rfl, ⟨by dsimp only; omega, by dsimp only; omega, ?_⟩, by dsimp only; omega⟩⟩
          · rw [hat, ← h4]
            rcases hq with hq | hq
            · rw [decide_eq_false (by omega)]; rfl
            · rw [hq]; simp
          · dsimp only
            rw [← h4, decide_eq_true (by omega), hq.2]; rfl
        · have hw : rightKs (-1) e.kids (d - 1) = true := by
            rw [← h4, List.drop_of_length_le (by omega)]; rfl
          rw [hw, Bool.true_and] at hat
          refine ⟨fun hq => ends_bool rfl (by rw [hat, decide_eq_false (by omega)]; rfl), fun hq => ?_⟩
          rw [decide_eq_true (by omega), Bool.true_and] at hat
          refine loop_rule (ι := Int) (fun p => head59_2 e d p) (fun p => 0 ≤ p ∧ p ≤ e.ops.length ∧ rightOs e.list (e.ops.drop p.toNat) (d - 1) = rightOs e.list e.ops (d - 1)) (fun p => ((e.ops.length : Int) - p).toNat) 0 rfl ⟨by omega, by omega, by simp⟩ ?_
          rintro j ⟨h5, h6, h7⟩
          refine vc59_l2 N e d j _ _ ?_
          (simp only [bif_tl, bif_fr, bif_tlf, bif_frf, Bool.not_eq_true', Bool.not_eq_false', decide_eq_true_eq, decide_eq_false_iff_not, beq_iff_eq, beq_eq_false_iff_ne, bne_iff_ne, ne_eq, bne_eq_false_iff_eq, Bool.or_eq_true, Bool.and_eq_true, Bool.or_eq_false_iff, Bool.and_eq_false_imp])
          try (simp only [Tree.eta, Edit.eta, Tree.kind_mk, Tree.words_mk, Tree.kids_mk])
          refine ⟨fun hj => ?_, fun hj => ?_⟩
          · have hmem := mem_getD (l := e.ops) (i := j.toNat) (by omega) Op.nil
            have hro := rngOs_mem ros hmem
            have hmm := massOs_mem hmem
            rw [dropI h5 hj Op.nil] at h7
            simp only [rightOs] at h7
            generalize e.ops.getD j.toNat Op.nil = o at *
            refine ⟨⟨h5, hj⟩, by unfold InR; omega, ⟨⟨by show massOp o ≤ 1000000; omega, hro, il⟩, by dsimp only; omega, by dsimp only; omega⟩, ?_, fun hq => ends_bool rfl ?_, fun hq => ⟨by unfold InR; omega, j + 1, rfl, ⟨by omega, by omega, ?_⟩, by omega⟩⟩
            · show 2 * massOp o + 1 < N
              omega
            · have hq' : rightOp e.list o (d - 1) = false := hq
              rw [hat, ← h7, hq']; rfl
            · have hq' : rightOp e.list o (d - 1) = true := hq
              rw [← h7, hq']; rfl
          · have hw : rightOs e.list e.ops (d - 1) = true := by
              rw [← h7, List.drop_of_length_le (by omega)]; rfl
            rw [hw, Bool.true_and] at hat
            refine ⟨⟨hm, fun o ho => rightOp_n (rightOs_mem hw ho)⟩, ends_bool rfl ?_⟩
            rw [hat, Bool.eq_iff_iff]
            (simp only [bif_tl, bif_fr, bif_tlf, bif_frf, Bool.not_eq_true', Bool.not_eq_false', decide_eq_true_eq, decide_eq_false_iff_not, beq_iff_eq, beq_eq_false_iff_ne, bne_iff_ne, ne_eq, bne_eq_false_iff_eq, Bool.or_eq_true, Bool.and_eq_true, Bool.or_eq_false_iff, Bool.and_eq_false_imp])
    · intro h
      rcases h with h | h | h
      · rcases hf.1.1 with h2 | h2
        · exact h1 h2
        · exact h.2 h2
      · omega
      · omega

theorem drop_take_one {l : List Tree} {i : Int} (h0 : 0 ≤ i) (h : i < l.length) : List.drop i.toNat (l.take (i + 1).toNat) = [l.getD i.toNat Tree.nil] := by
  rw [List.drop_take, show (i + 1).toNat - i.toNat = 1 by omega, dropI h0 h Tree.nil]
  rfl

theorem b90 : HB90 := by
  intro N list o d _ hp hN
  simp only [pre90, mu90] at hp hN
  obtain ⟨⟨hm, hr, hil⟩, hd0, hd1⟩ := hp
  obtain ⟨ik, inn, rl, re⟩ := rngOp_e hr
  rw [massOp_e] at hm hN
  have hll := massK_len o.l
  have hep := massE_pos o.e
  have hat := rightOp_at list o d
  refine vc90 N list o d _ ?_
  (simp only [bif_tl, bif_fr, bif_tlf, bif_frf, Bool.not_eq_true', Bool.not_eq_false', decide_eq_true_eq, decide_eq_false_iff_not, beq_iff_eq, beq_eq_false_iff_ne, bne_iff_ne, ne_eq, bne_eq_false_iff_eq, Bool.or_eq_true, Bool.and_eq_true, Bool.or_eq_false_iff, Bool.and_eq_false_imp])
  (simp only [Tree.eta, Edit.eta, Tree.kind_mk, Tree.words_mk, Tree.kids_mk])
  refine ⟨fun h0 => ⟨fun _ => by simp only [pre123]; omega, ends_bool rfl ?_⟩, fun h0 => ⟨fun hc => ends_bool rfl ?_, fun hc => ⟨fun h3 => ?_, fun h3 => ⟨fun _ => ⟨⟨by dsimp only; omega, re⟩, hd0, hd1⟩, fun _ => by simp only [mu59]; omega, fun hq => ends_bool rfl ?_, fun hq => ends_bool rfl ?_⟩⟩⟩⟩
  · rw [hat, if_pos h0, Bool.eq_iff_iff]
    (simp only [bif_tl, bif_fr, bif_tlf, bif_frf, Bool.not_eq_true', Bool.not_eq_false', decide_eq_true_eq, decide_eq_false_iff_not, beq_iff_eq, beq_eq_false_iff_ne, bne_iff_ne, ne_eq, bne_eq_false_iff_eq, Bool.or_eq_true, Bool.and_eq_true, Bool.or_eq_false_iff, Bool.and_eq_false_imp])
    constructor
    · rintro ⟨h1, h2⟩; exact ⟨by omega, h2⟩
    · rintro ⟨h1, h2⟩; exact ⟨by omega, h2⟩
  · rw [hat, if_neg h0, if_pos (by omega)]
  · rw [if_neg h0, if_neg (by omega), if_pos h3] at hat
    refine loop_rule (ι := Int) (fun p => head90_0 list o d p) (fun p => 0 ≤ p ∧ p ≤ o.l.length ∧ treesOk list (o.l.drop p.toNat) = treesOk list o.l) (fun p => ((o.l.length : Int) - p).toNat) 0 rfl ⟨by omega, by omega, by simp⟩ ?_
    rintro i ⟨h4, h5, h6⟩
    refine vc90_l0 N list o d i _ _ ?_
    (simp only [bif_tl, bif_fr, bif_tlf, bif_frf, Bool.not_eq_true', Bool.not_eq_false', decide_eq_true_eq, decide_eq_false_iff_not, beq_iff_eq, beq_eq_false_iff_ne, bne_iff_ne, ne_eq, bne_eq_false_iff_eq, Bool.or_eq_true, Bool.and_eq_true, Bool.or_eq_false_iff, Bool.and_eq_false_imp])
    try (simp only [Tree.eta, Edit.eta, Tree.kind_mk, Tree.words_mk, Tree.kids_mk])
    refine ⟨fun hi => ?_, fun hi => ?_⟩
    · have hmem := mem_getD (l := o.l) (i := i.toNat) (by omega) Tree.nil
      have hrt := rngK_mem rl hmem
      have hmt := massK_mem hmem
      rw [drop_take_one h4 hi]
      rw [dropI h4 hi Tree.nil] at h6
      simp only [treesOk] at h6
      generalize o.l.getD i.toNat Tree.nil = t at *
      refine ⟨by unfold InR; omega, by omega, ⟨by simp only [mass, massK, List.length_nil]; omega, ⟨hil, fun x hx => (by cases hx), hrt, trivial⟩, by dsimp only; omega, by dsimp only; omega⟩, fun hq => ends_bool rfl ?_, fun hq => ⟨by unfold InR; omega, i + 1, rfl, ⟨by omega, by omega, ?_⟩, by omega⟩⟩
      · rw [hat, ← h6, hq]; rfl
      · rw [← h6, hq]; rfl
    · have hw : treesOk list o.l = true := by
        rw [← h6, List.drop_of_length_le (by omega)]; rfl
      rw [hw, Bool.true_and] at hat
      refine ⟨fun _ => by simp only [pre123]; omega, ends_bool rfl ?_⟩
      rw [hat, Bool.eq_iff_iff]
      (simp only [bif_tl, bif_fr, bif_tlf, bif_frf, Bool.not_eq_true', Bool.not_eq_false', decide_eq_true_eq, decide_eq_false_iff_not, beq_iff_eq, beq_eq_false_iff_ne, bne_iff_ne, ne_eq, bne_eq_false_iff_eq, Bool.or_eq_true, Bool.and_eq_true, Bool.or_eq_false_iff, Bool.and_eq_false_imp])
      simp only [Int.natCast_pos]
  · rw [hat, if_neg h0, if_neg (by omega), if_neg h3]
    rcases hq with hq | hq
    · have : ¬(o.l.length = 0 ∧ o.e.kind ≠ 0 ∧ 7 < list) := by omega
      rw [decide_eq_false this]; rfl
    · rw [hq]; simp
  · rw [hat, if_neg h0, if_neg (by omega), if_neg h3, hq.2]
    have : o.l.length = 0 ∧ o.e.kind ≠ 0 ∧ 7 < list := by omega
    rw [decide_eq_true this, Bool.eq_iff_iff]
    (simp only [bif_tl, bif_fr, bif_tlf, bif_frf, Bool.not_eq_true', Bool.not_eq_false', decide_eq_true_eq, decide_eq_false_iff_not, beq_iff_eq, beq_eq_false_iff_ne, bne_iff_ne, ne_eq, bne_eq_false_iff_eq, Bool.or_eq_true, Bool.and_eq_true, Bool.or_eq_false_iff, Bool.and_eq_false_imp])
    simp only [true_and, Bool.and_true, decide_eq_true_eq, and_assoc, or_assoc]

theorem c59_90 : Contract Try.prog cfg 59 spec59 ∧ Contract Try.prog cfg 90 spec90 := make59_90 c88 c89 c123 c47 c57 b59 b90

theorem lightE_at (e : Edit) : lightE e = (decide (lenA e.ops 0 ≤ 2000 ∧ lenB e.ops 0 ≤ 2000) && lightKs e.kids && lightOs e.ops) := by
  obtain ⟨k, o, nw, w, ks, l, os⟩ := e; rfl

theorem lightKid_at (k : Kid) : lightKid k = lightE k.e := by cases k; rfl
theorem lightOp_at (o : Op) : lightOp o = lightE o.e := by cases o; rfl

theorem rightE_in {e : Edit} {d : Int} (h : rightE e d = true) : (∀ k ∈ e.kids, rightE k.e (d - 1) = true ∧ k.e.kind ≠ 0) ∧ ∀ o ∈ e.ops, rightOp e.list o (d - 1) = true := by
  rw [rightE_at] at h
  split at h
  · cases h
  · split at h
    · cases h
    · rename_i h1 h2
      split at h
      · rename_i h3
        have hk : e.kids = [] := List.eq_nil_of_length_eq_zero (by omega)
        have ho : e.ops = [] := List.eq_nil_of_length_eq_zero (by omega)
        rw [hk, ho]
        exact ⟨fun k hk => (by cases hk), fun o ho => (by cases ho)⟩
      · simp only [Bool.and_eq_true] at h
        exact ⟨fun k hk => rightKs_mem h.1.1.1.2 hk, fun o ho => rightOs_mem h.1.2 ho⟩

theorem sameE_eq {e : Edit} (h : sameE e = true) : e.kind = 0 ∧ noneT e.old = true ∧ noneT e.new = true ∧ e.words = [] ∧ e.kids = [] ∧ e.ops = [] ∧ e.list = 0 := by
  simp only [sameE, Bool.and_eq_true, decide_eq_true_eq] at h
  obtain ⟨⟨⟨h1, h2⟩, h3⟩, h4, h5, h6, h7⟩ := h
  exact ⟨h1, h2, h3, List.eq_nil_of_length_eq_zero h4, List.eq_nil_of_length_eq_zero h5, List.eq_nil_of_length_eq_zero h6, h7⟩

theorem sameE_right {e : Edit} (h : sameE e = true) (d : Int) (hd : d ≠ 0) : rightE e d = true := by
  obtain ⟨h1, h2, h3, h4, h5, h6, h7⟩ := sameE_eq h
  rw [rightE_at, h1, h2, h3, h4, h5, h6, h7, if_neg (by omega), if_neg (by simp), if_neg (by omega)]
  simp [wordsOk, rightKs, rightOs, lenA, lenB]

theorem rightOp_right {list : Int} {o : Op} {d : Int} (h : rightOp list o d = true) : ∃ d', rightE o.e d' = true := by
  rw [rightOp_at] at h
  split at h
  · simp only [Bool.and_eq_true] at h
    exact ⟨1, sameE_right h.2 1 (by omega)⟩
  · split at h
    · cases h
    · split at h
      · simp only [Bool.and_eq_true] at h
        exact ⟨1, sameE_right h.2 1 (by omega)⟩
      · simp only [Bool.and_eq_true] at h
        exact ⟨d, h.1.2⟩

theorem c75 : Contract Try.prog cfg 75 spec75 := by
  refine make75 c57 ?_
  intro N e _ hp hN
  simp only [pre75, mu75] at hp hN
  obtain ⟨⟨hm, hr⟩, dd, hrt⟩ := hp
  obtain ⟨ik, ro, rn, rw', il, rk, ros⟩ := rngE_at hr
  have hme := len_massE e
  have hkl := massKs_len e.kids
  have hol := massOs_len e.ops
  have hat := lightE_at e
  obtain ⟨hrk, hro⟩ := rightE_in hrt
  refine vc75 N e _ ?_
  (simp only [bif_tl, bif_fr, bif_tlf, bif_frf, Bool.not_eq_true', Bool.not_eq_false', decide_eq_true_eq, decide_eq_false_iff_not, beq_iff_eq, beq_eq_false_iff_ne, bne_iff_ne, ne_eq, bne_eq_false_iff_eq, Bool.or_eq_true, Bool.and_eq_true, Bool.or_eq_false_iff, Bool.and_eq_false_imp])
  try (simp only [Tree.eta, Edit.eta, Tree.kind_mk, Tree.words_mk, Tree.kids_mk])
  refine ⟨⟨hm, fun o ho => rightOp_n (hro o ho)⟩, fun hq => ends_bool rfl (by rw [hat, decide_eq_false (by omega)]; rfl), fun hq => ?_⟩
  rw [decide_eq_true (by omega), Bool.true_and] at hat
  refine loop_rule (ι := Int) (fun p => head75_0 e p) (fun p => 0 ≤ p ∧ p ≤ e.kids.length ∧ lightKs (e.kids.drop p.toNat) = lightKs e.kids) (fun p => ((e.kids.length : Int) - p).toNat) 0 rfl ⟨by omega, by omega, by simp⟩ ?_
  rintro i ⟨h4, h5, h6⟩
  refine vc75_l0 N e i _ _ ?_
  (simp only [bif_tl, bif_fr, bif_tlf, bif_frf, Bool.not_eq_true', Bool.not_eq_false', decide_eq_true_eq, decide_eq_false_iff_not, beq_iff_eq, beq_eq_false_iff_ne, bne_iff_ne, ne_eq, bne_eq_false_iff_eq, Bool.or_eq_true, Bool.and_eq_true, Bool.or_eq_false_iff, Bool.and_eq_false_imp])
  (simp only [Tree.eta, Edit.eta, Tree.kind_mk, Tree.words_mk, Tree.kids_mk])
  refine ⟨fun hi => ?_, fun hi => ?_⟩
  · have hmem := mem_getD (l := e.kids) (i := i.toNat) (by omega) (KidOf.mk 0 Edit.nil)
    have hrr := rngKs_mem rk hmem
    have hmm := massKs_mem hmem
    have hri := hrk _ hmem
    rw [dropI h4 hi (KidOf.mk 0 Edit.nil)] at h6
    simp only [lightKs, lightKid_at] at h6
    generalize e.kids.getD i.toNat (KidOf.mk 0 Edit.nil) = k at *
    refine ⟨⟨h4, hi⟩, ⟨⟨by dsimp only; omega, hrr.2⟩, _, hri.1⟩, by simp only [mu75]; omega, fun hq => ends_bool rfl (by rw [hat, ← h6, hq]; rfl), fun hq => ⟨by unfold InR; omega, i + 1, rfl, ⟨by omega, by omega, by rw [← h6, hq]; rfl⟩, by omega⟩⟩
  · have hw : lightKs e.kids = true := by
      rw [← h6, List.drop_of_length_le (by omega)]; rfl
    rw [hw, Bool.true_and] at hat
    refine loop_rule (ι := Int) (fun p => head75_1 e p) (fun p => 0 ≤ p ∧ p ≤ e.ops.length ∧ lightOs (e.ops.drop p.toNat) = lightOs e.ops) (fun p => ((e.ops.length : Int) - p).toNat) 0 rfl ⟨by omega, by omega, by simp⟩ ?_
    rintro j ⟨g4, g5, g6⟩
    refine vc75_l1 N e j _ _ ?_
    (simp only [bif_tl, bif_fr, bif_tlf, bif_frf, Bool.not_eq_true', Bool.not_eq_false', decide_eq_true_eq, decide_eq_false_iff_not, beq_iff_eq, beq_eq_false_iff_ne, bne_iff_ne, ne_eq, bne_eq_false_iff_eq, Bool.or_eq_true, Bool.and_eq_true, Bool.or_eq_false_iff, Bool.and_eq_false_imp])
    try (simp only [Tree.eta, Edit.eta, Tree.kind_mk, Tree.words_mk, Tree.kids_mk])
    refine ⟨fun hi => ?_, fun hi => ?_⟩
    · have hmem := mem_getD (l := e.ops) (i := j.toNat) (by omega) Op.nil
      have hrr := rngOp_e (rngOs_mem ros hmem)
      have hmm := massOs_mem hmem
      have hri := rightOp_right (hro _ hmem)
      rw [massOp_e] at hmm
      rw [dropI g4 hi Op.nil] at g6
      simp only [lightOs, lightOp_at] at g6
      generalize e.ops.getD j.toNat Op.nil = o at *
      refine ⟨⟨g4, hi⟩, ⟨⟨by dsimp only; omega, hrr.2.2.2⟩, hri⟩, by simp only [mu75]; omega, fun hq => ends_bool rfl (by rw [hat, ← g6, hq]; rfl), fun hq => ⟨by unfold InR; omega, j + 1, rfl, ⟨by omega, by omega, by rw [← g6, hq]; rfl⟩, by omega⟩⟩
    · refine ends_bool rfl ?_
      rw [hat, ← g6, List.drop_of_length_le (by omega)]; rfl

theorem c37 : Contract Try.prog cfg 37 spec37 := by
  refine make37 c54 c59_90.1 c75 ?_
  intro e _ hp
  simp only [pre37] at hp
  refine vc37 e _ ?_
  (simp only [Tree.eta, Edit.eta, Tree.kind_mk, Tree.words_mk, Tree.kids_mk])
  refine ⟨hp.1, fun hf => ?_, fun hf => ?_, ends_bool rfl ?_⟩
  · have := few_massE (by simpa using hf)
    exact ⟨⟨by dsimp only; omega, hp.2⟩, by dsimp only; omega, by dsimp only; omega⟩
  · simp only [bif_fr, decide_eq_true_eq] at hf
    have := few_massE hf.1
    exact ⟨⟨by dsimp only; omega, hp.2⟩, 64, hf.2⟩
  · show _ = good e
    simp only [good]
    rw [Bool.eq_iff_iff]
    (simp only [bif_tl, bif_fr, bif_tlf, bif_frf, Bool.not_eq_true', Bool.not_eq_false', decide_eq_true_eq, decide_eq_false_iff_not, beq_iff_eq, beq_eq_false_iff_ne, bne_iff_ne, ne_eq, bne_eq_false_iff_eq, Bool.or_eq_true, Bool.and_eq_true, Bool.or_eq_false_iff, Bool.and_eq_false_imp])

end Go.AM.Ytlahjnelghpmeaa
