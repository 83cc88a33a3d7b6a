/- Chapter 20: what is right, by the program's own way. -/
import Derived.Test.YtlahjnelghpmeaaG20z
import Derived.Test.YtlahjnelghpmeaaB20c
import Derived.Test.YtlahjnelghpmeaaG20x
import Derived.Test.YtlahjnelghpmeaaRB07
set_option linter.unusedSimpArgs false
set_option linter.unusedVariables false
namespace Go.AM.Ytlahjnelghpmeaa
open Go.AM Go.Proofs

theorem sameE_iff {e : Edit} : (rightE e 1 = true ∧ e.kind = 0) ↔ sameE e = true := by
  rw [rightE_at]
  simp only [sameE, Bool.and_eq_true, decide_eq_true_eq]
  by_cases hk : e.kind = 0
  · rw [if_neg (by omega)]
    by_cases hb : noneT e.old = true ∧ noneT e.new = true
    · by_cases hw : e.words.length = 0 ∧ e.kids.length = 0
      · by_cases hl : e.list = 0 ∧ e.ops.length = 0
        · have h1 : e.words = [] := List.length_eq_zero_iff.1 hw.1
          have h2 : e.kids = [] := List.length_eq_zero_iff.1 hw.2
          have h3 : e.ops = [] := List.length_eq_zero_iff.1 hl.2
          rw [if_neg (fun h => by rcases h with h | h | h; exact h.2 hb; exact h.2 hw; omega), if_neg (by omega), h1, h2, h3]
          simp only [wordsOk, rightKs, rightOs, lenA, lenB, Bool.true_and, Bool.and_true, Bool.and_eq_true, decide_eq_true_eq]
          refine ⟨fun _ => ⟨⟨⟨hk, hb.1⟩, hb.2⟩, rfl, rfl, rfl, hl.1⟩, fun _ => by simp [hk]⟩
        · rw [if_pos (Or.inr (Or.inr ⟨by omega, by omega⟩))]
          refine ⟨fun h => (nomatch h.1), fun h => absurd ⟨h.2.2.2.2, h.2.2.2.1⟩ hl⟩
      · rw [if_pos (Or.inr (Or.inl ⟨by omega, hw⟩))]
        refine ⟨fun h => (nomatch h.1), fun h => absurd ⟨h.2.1, h.2.2.1⟩ hw⟩
    · rw [if_pos (Or.inl ⟨by omega, hb⟩)]
      refine ⟨fun h => (nomatch h.1), fun h => absurd ⟨h.1.1.2, h.1.2⟩ hb⟩
  · exact ⟨fun h => absurd h.2 hk, fun h => absurd h.1.1.1 hk⟩

theorem b87 : HB87 := by
  intro N e d _ hp hN
  simp only [pre87, mu87] at hp hN
  obtain ⟨⟨hm, hr⟩, hd0, hd1⟩ := hp
  obtain ⟨ik, ro, rn, rw', il, rk, ros⟩ := rngE_at hr
  have hme := len_massE e
  have hkl := massKs_len e.kids
  have hol := massOs_len e.ops
  have hat := rightE_at e d
  refine vc87 N e d _ ?_
  rintro y1 hy1 y2 hy2 y3 hy3
  subst hy1 hy2 hy3
  (simp only [bif_tl, bif_fr, bif_tlf, bif_frf, Bool.not_eq_true', Bool.not_eq_false', decide_eq_true_eq, decide_eq_false_iff_not, beq_iff_eq, beq_eq_false_iff_ne, bne_iff_ne, ne_eq, bne_eq_false_iff_eq, Bool.or_eq_true, Bool.and_eq_true, Bool.or_eq_false_iff, Bool.and_eq_false_imp])
  have hbare : bareE y1 = true ↔ ¬((y1.kind ≠ 1 ∧ ¬(noneT y1.old = true ∧ noneT y1.new = true)) ∨ (y1.kind ≠ 2 ∧ ¬(y1.words.length = 0 ∧ y1.kids.length = 0)) ∨ (y1.kind ≠ 3 ∧ (y1.list ≠ 0 ∨ y1.ops.length ≠ 0))) := by
    unfold bareE
    split
    · rename_i h; exact ⟨fun h => (nomatch h), fun h2 => absurd h h2⟩
    · rename_i h; exact ⟨fun _ => h, fun _ => rfl⟩
  refine ⟨by simp only [pre118]; omega, fun hc => ends_bool rfl ?_, fun hc => ?_⟩
  · rcases hc with hc | hc
    · rw [hat]
      split
      · rfl
      · rw [if_pos (Classical.byContradiction fun h => by rw [hbare.2 h] at hc; cases hc)]
    · rw [hat, if_pos (Or.inl hc)]
  have hb := hbare.1 hc.1
  have hr2 : ¬(y1.kind = 0 ∨ y1.kind = 1 ∨ y1.kind = 2 ∨ y1.kind = 3) → rightE y1 d = false := fun h => by rw [hat, if_pos (by omega)]
  by_cases hk : y1.kind = 0 ∨ y1.kind = 1 ∨ y1.kind = 2 ∨ y1.kind = 3
  · rw [if_neg (by omega), if_neg hb] at hat
    have hw : y1.kind ≠ 2 → y1.words = [] ∧ y1.kids = [] := by
      intro h
      have : y1.words.length = 0 ∧ y1.kids.length = 0 := Classical.byContradiction fun h2 => hb (Or.inr (Or.inl ⟨h, h2⟩))
      exact ⟨List.length_eq_zero_iff.1 this.1, List.length_eq_zero_iff.1 this.2⟩
    have ho : y1.kind ≠ 3 → y1.list = 0 ∧ y1.ops = [] := by
      intro h
      have : y1.list = 0 ∧ y1.ops.length = 0 := by
        constructor
        · exact Classical.byContradiction fun h2 => hb (Or.inr (Or.inr ⟨h, Or.inl h2⟩))
        · exact Classical.byContradiction fun h2 => hb (Or.inr (Or.inr ⟨h, Or.inr h2⟩))
      exact ⟨this.1, List.length_eq_zero_iff.1 this.2⟩
    refine ⟨fun h0 => ends_bool rfl ?_, fun h0 => ⟨fun h1 => ⟨by simp only [pre119]; exact ⟨by omega, ro⟩, fun _ => by simp only [pre119]; exact ⟨by omega, rn⟩, ends_bool rfl ?_⟩, fun h1 => ⟨fun h2 => ⟨by simp only [pre120]; exact ⟨by omega, rw'⟩, fun _ => by unfold InR; omega, fun _ => by simp only [pre121]; exact ⟨⟨by omega, rk⟩, by omega, by omega⟩, fun _ => by simp only [mu121]; omega, ends_bool rfl ?_⟩, fun h2 => ⟨fun h3 => ⟨trivial, fun _ => by unfold InR; omega, fun hl => by simp only [pre122]; exact ⟨⟨by omega, hr, hl⟩, by omega, by omega⟩, fun _ => by simp only [mu122]; omega, ends_bool rfl ?_⟩, fun h3 => ?_⟩⟩⟩⟩
    · rw [hat, if_neg (by omega), (hw (by omega)).1, (hw (by omega)).2, (ho (by omega)).1, (ho (by omega)).2]
      simp [wordsOk, rightKs, rightOs, lenA, lenB]
      omega
    · rw [hat, if_pos h1, Bool.eq_iff_iff]
      (simp only [bif_tl, bif_fr, bif_tlf, bif_frf, Bool.not_eq_true', Bool.not_eq_false', decide_eq_true_eq, decide_eq_false_iff_not, beq_iff_eq, beq_eq_false_iff_ne, bne_iff_ne, ne_eq, bne_eq_false_iff_eq, Bool.or_eq_true, Bool.and_eq_true, Bool.or_eq_false_iff, Bool.and_eq_false_imp])
      exact ⟨fun h => ⟨⟨h.1.2, h.2.2⟩, h.1.1, h.2.1⟩, fun h => ⟨⟨h.2.1, h.1.1⟩, h.2.2, h.1.2⟩⟩
    · rw [hat, if_neg h1, (ho (by omega)).1, (ho (by omega)).2, Bool.eq_iff_iff]
      simp only [rightOs, lenA, lenB]
      (simp only [bif_tl, bif_fr, bif_tlf, bif_frf, Bool.not_eq_true', Bool.not_eq_false', decide_eq_true_eq, decide_eq_false_iff_not, beq_iff_eq, beq_eq_false_iff_ne, bne_iff_ne, ne_eq, bne_eq_false_iff_eq, Bool.or_eq_true, Bool.and_eq_true, Bool.or_eq_false_iff, Bool.and_eq_false_imp])
      constructor
      · rintro ⟨a, b⟩
        exact ⟨⟨⟨⟨a, b⟩, by omega⟩, trivial⟩, by decide⟩
      · rintro ⟨⟨⟨⟨a, b⟩, _⟩, _⟩, _⟩
        exact ⟨a, b⟩
    · rw [hat, if_neg h1, (hw (by omega)).1, (hw (by omega)).2, Bool.eq_iff_iff]
      simp only [wordsOk, rightKs]
      (simp only [bif_tl, bif_fr, bif_tlf, bif_frf, Bool.not_eq_true', Bool.not_eq_false', decide_eq_true_eq, decide_eq_false_iff_not, beq_iff_eq, beq_eq_false_iff_ne, bne_iff_ne, ne_eq, bne_eq_false_iff_eq, Bool.or_eq_true, Bool.and_eq_true, Bool.or_eq_false_iff, Bool.and_eq_false_imp])
      constructor
      · rintro ⟨a, b, c⟩
        exact ⟨⟨⟨⟨trivial, trivial⟩, by omega⟩, b⟩, c⟩
      · rintro ⟨⟨⟨_, a⟩, b⟩, c⟩
        exact ⟨by omega, b, c⟩
    · omega
  · have he := hr2 hk
    refine ⟨fun h0 => by omega, fun h0 => ⟨fun h1 => by omega, fun h1 => ⟨fun h2 => by omega, fun h2 => ⟨fun h3 => by omega, fun h3 => ends_bool rfl ?_⟩⟩⟩⟩
    rw [he]

theorem b121 : HB121 := by
  intro N l d _ hp hN
  simp only [pre121, mu121] at hp hN
  obtain ⟨⟨hm, hr⟩, hd0, hd1⟩ := hp
  have hl := massKs_len l
  refine vc121 N l d _ ?_
  refine loop_rule (ι := Int) (fun i => head121_0 l d i) (fun i => 0 ≤ i ∧ i ≤ l.length ∧ ∃ last, -1 ≤ last ∧ (i = 0 → last = -1) ∧ (0 < i → last = (l.getD (i - 1).toNat (KidOf.mk 0 Edit.nil)).at_) ∧ rightKs last (l.drop i.toNat) d = rightKs (-1) l d) (fun i => ((l.length : Int) - i).toNat) 0 rfl ⟨by omega, by omega, -1, by omega, fun _ => rfl, fun h => by omega, by simp⟩ ?_
  rintro i ⟨g1, g2, last, g3, g4, g5, g6⟩
  refine vc121_l0 N l d i _ _ ?_
  rintro y1 hy1 y2 hy2 y3 hy3
  (simp only [bif_tl, bif_fr, bif_tlf, bif_frf, Bool.not_eq_true', Bool.not_eq_false', decide_eq_true_eq, decide_eq_false_iff_not, beq_iff_eq, beq_eq_false_iff_ne, bne_iff_ne, ne_eq, bne_eq_false_iff_eq, Bool.or_eq_true, Bool.and_eq_true, Bool.or_eq_false_iff, Bool.and_eq_false_imp])
  refine ⟨fun hi => ?_, fun hi => ?_⟩
  · have hmem := mem_getD (l := l) (i := i.toNat) (by omega) (KidOf.mk 0 Edit.nil)
    have hmk := massKs_mem hmem
    have hrk := rngKs_mem hr hmem
    rw [dropI g1 hi (KidOf.mk 0 Edit.nil)] at g6
    rw [← hy1] at g6 hmk hrk
    rw [← hy2] at g5
    rw [← hy3] at hmk hrk
    simp only [rightKs, rightKid_at] at g6
    rw [← hy3] at g6
    have hk : y1.e.kind = y3.kind := by rw [hy3]
    rw [hk]
    have gl : (¬0 < i ∨ ¬y1.at_ ≤ y2.at_) ∧ ¬y1.at_ < 0 ↔ last < y1.at_ ∧ ¬ y1.at_ < 0 := by
      by_cases h0 : 0 < i
      · have := g5 h0; omega
      · have := g4 (by omega); omega
    refine ⟨⟨g1, hi⟩, fun _ => by unfold InR; omega, fun _ => by omega, fun _ => ?_, fun _ => by simp only [mu87]; omega, fun hc => ends_bool rfl ?_, fun hc => ⟨by unfold InR; omega, i + 1, rfl, ⟨by omega, by omega, y1.at_, by omega, fun h => by omega, fun _ => by rw [show (i + 1 - 1).toNat = i.toNat by omega, ← hy1], ?_⟩, by omega⟩⟩
    · simp only [pre87]
      exact ⟨⟨by omega, hrk.2⟩, hd0, hd1⟩
    · rw [← g6]
      by_cases hr : rightE y3 d = true
      · rw [decide_eq_false (fun h => ?_)]
        · rfl
        · rcases hc with hc | hc
          · rcases hc with (hc | hc) | hc
            · omega
            · by_cases h0 : 0 < i
              · have := g5 h0; omega
              · omega
            · exact h.2.2 hc
          · rw [hr] at hc; cases hc
      · simp only [Bool.not_eq_true] at hr
        rw [hr]; simp
    · rw [← g6, hc.2, decide_eq_true (show last < y1.at_ ∧ y1.at_ ≤ 65534 ∧ y3.kind ≠ 0 by
        refine ⟨?_, by omega, hc.1.2⟩
        by_cases h0 : 0 < i
        · have := g5 h0; omega
        · have := g4 (by omega); omega)]
      rfl
  · rw [List.drop_of_length_le (by omega)] at g6
    simp only [res121]
    rw [← g6]
    exact ends_bool rfl rfl

theorem rightOs_every {list d : Int} : ∀ {os : List Op}, (∀ o ∈ os, rightOp list o d = true) → rightOs list os d = true
  | [], _ => rfl
  | o :: r, h => by
    simp only [rightOs, Bool.and_eq_true]
    exact ⟨h o (List.mem_cons_self ..), rightOs_every (fun x hx => h x (List.mem_cons_of_mem _ hx))⟩

theorem b122 : HB122 := by
  intro N e d _ hp hN
  simp only [pre122, mu122] at hp hN
  obtain ⟨⟨hm, hr, hl⟩, hd0, hd1⟩ := hp
  obtain ⟨ik, ro, rn, rw', il, rk, ros⟩ := rngE_at hr
  have hme := len_massE e
  have hol := massOs_len e.ops
  refine vc122 N e d _ ?_
  refine loop_rule (ι := Int) (fun i => head122_0 e d i) (fun i => 0 ≤ i ∧ i ≤ e.ops.length ∧ ∀ o ∈ e.ops.take i.toNat, rightOp e.list o d = true) (fun i => ((e.ops.length : Int) - i).toNat) 0 rfl ⟨by omega, by omega, by simp⟩ ?_
  rintro i ⟨g1, g2, g3⟩
  refine vc122_l0 N e d i _ _ ?_
  rintro y1 hy1 y2 hy2 y3 hy3
  subst hy1 hy3
  (simp only [bif_tl, bif_fr, bif_tlf, bif_frf, Bool.not_eq_true', Bool.not_eq_false', decide_eq_true_eq, decide_eq_false_iff_not, beq_iff_eq, beq_eq_false_iff_ne, bne_iff_ne, ne_eq, bne_eq_false_iff_eq, Bool.or_eq_true, Bool.and_eq_true, Bool.or_eq_false_iff, Bool.and_eq_false_imp])
  refine ⟨fun hi => ?_, fun hi => ?_⟩
  · have hmem := mem_getD (l := y1.ops) (i := i.toNat) (by omega) Op.nil
    have hmo := massOs_mem hmem
    have hro := rngOs_mem ros hmem
    rw [← hy2] at hmem hmo hro
    refine ⟨⟨g1, hi⟩, ?_, by simp only [mu132]; omega, fun hc => ends_bool rfl ?_, fun hc => ⟨by unfold InR; omega, i + 1, rfl, ⟨by omega, by omega, fun o ho => ?_⟩, by omega⟩⟩
    · simp only [pre132]
      exact ⟨⟨by omega, hro, hl⟩, hd0, hd1⟩
    · have : rightOs y1.list y1.ops d = false := by
        rw [← Bool.not_eq_true]
        intro h
        have := rightOs_mem h hmem
        rw [hc] at this; cases this
      rw [this, Bool.false_and]
    · rw [show (i + 1).toNat = i.toNat + 1 by omega, List.take_add_one] at ho
      rcases List.mem_append.1 ho with ho | ho
      · exact g3 o ho
      · have e : y1.ops[i.toNat]? = some y3 := by
          rw [hy2]
          simp [List.getD, List.getElem?_eq_getElem (show i.toNat < y1.ops.length by omega)]
        rw [e] at ho
        simp only [Option.toList_some, List.mem_singleton] at ho
        subst ho
        exact hc
  · rw [List.take_of_length_le (by omega)] at g3
    have hall : rightOs y1.list y1.ops d = true := rightOs_every g3
    have hb : ∀ o ∈ y1.ops, (0 ≤ o.n ∧ o.n ≤ 1048576) ∧ o.l.length ≤ 1000000 := by
      intro o ho
      refine ⟨rightOp_n (g3 o ho), ?_⟩
      have h1 := massOs_mem ho
      rw [massOp_e] at h1
      have h2 := massK_len o.l
      omega
    refine ⟨by simp only [pre56]; omega, ends_bool rfl ?_⟩
    rw [lenAW_eq _ _ hb (by decide) (by decide), lenBW_eq _ _ hb (by decide) (by decide), hall, Bool.true_and]
    by_cases h1 : lenA y1.ops 0 < 1048576 <;> by_cases h2 : lenB y1.ops 0 < 1048576 <;> simp [h1, h2]

theorem b132 : HB132 := by
  intro N list o d _ hp hN
  simp only [pre132, mu132] at hp hN
  obtain ⟨⟨hm, hr, hil⟩, hd0, hd1⟩ := hp
  obtain ⟨ik, inn, rl, re⟩ := rngOp_e hr
  rw [massOp_e] at hm hN
  have hll := massK_len o.l
  have hep := massE_pos o.e
  have hat := rightOp_at list o d
  have hs := sameE_iff (e := o.e)
  refine vc132 N list o d _ ?_
  rintro y1 hy1 y2 hy2
  subst hy1
  (simp only [bif_tl, bif_fr, bif_tlf, bif_frf, Bool.not_eq_true', Bool.not_eq_false', decide_eq_true_eq, decide_eq_false_iff_not, beq_iff_eq, beq_eq_false_iff_ne, bne_iff_ne, ne_eq, bne_eq_false_iff_eq, Bool.or_eq_true, Bool.and_eq_true, Bool.or_eq_false_iff, Bool.and_eq_false_imp])
  have hp87 : pre87 (o.e, 1, ()) := by simp only [pre87]; exact ⟨⟨by omega, re⟩, by omega, by omega⟩
  have hm87 : mu87 (o.e, 1, ()) < N := by simp only [mu87]; omega
  have hp135 : pre135 (o.l, (list, ()), ()) := by simp only [pre135]; exact ⟨by omega, rl, by unfold isI; omega⟩
  have h12 : o.kind = 1 ∨ o.kind = 2 → y2 = .bool (rightOp list o d) := by
    intro hk
    rw [hy2, hat, if_neg (by omega)]
    congr 1
    rw [Bool.eq_iff_iff]
    (simp only [bif_tl, bif_fr, bif_tlf, bif_frf, Bool.not_eq_true', Bool.not_eq_false', decide_eq_true_eq, decide_eq_false_iff_not, beq_iff_eq, beq_eq_false_iff_ne, bne_iff_ne, ne_eq, bne_eq_false_iff_eq, Bool.or_eq_true, Bool.and_eq_true, Bool.or_eq_false_iff, Bool.and_eq_false_imp])
    by_cases hn : o.n = 0
    · rw [if_neg (by omega), if_pos (by omega)]
      (simp only [bif_tl, bif_fr, bif_tlf, bif_frf, Bool.not_eq_true', Bool.not_eq_false', decide_eq_true_eq, decide_eq_false_iff_not, beq_iff_eq, beq_eq_false_iff_ne, bne_iff_ne, ne_eq, bne_eq_false_iff_eq, Bool.or_eq_true, Bool.and_eq_true, Bool.or_eq_false_iff, Bool.and_eq_false_imp])
      constructor
      · rintro ⟨⟨⟨⟨h1, h2⟩, h3⟩, h4⟩, h5⟩
        exact ⟨⟨h5, by omega⟩, hs.1 ⟨h3, h4⟩⟩
      · rintro ⟨⟨h5, h2⟩, h3⟩
        have := hs.2 h3
        exact ⟨⟨⟨⟨hn, by omega⟩, this.1⟩, this.2⟩, h5⟩
    · rw [if_pos (by omega)]
      exact ⟨fun h => absurd h.1.1.1.1 hn, fun h => (nomatch h)⟩
  refine ⟨fun hk => ⟨fun _ => hp87, fun _ => hm87, ends_bool rfl ?_⟩, fun hk => ⟨fun hk1 => ⟨fun _ => hp87, fun _ => hm87, fun _ => hp135, ?_⟩, fun hk1 => ⟨fun hk2 => ⟨fun _ => hp87, fun _ => hm87, fun _ => hp135, ?_⟩, fun hk2 => ⟨fun hk3 => ⟨fun _ => trivial, fun _ => ?_, fun _ => by simp only [mu87]; omega, ends_bool rfl ?_⟩, fun hk3 => ends_bool rfl ?_⟩⟩⟩⟩
  · rw [hat, if_pos hk, Bool.eq_iff_iff]
    (simp only [bif_tl, bif_fr, bif_tlf, bif_frf, Bool.not_eq_true', Bool.not_eq_false', decide_eq_true_eq, decide_eq_false_iff_not, beq_iff_eq, beq_eq_false_iff_ne, bne_iff_ne, ne_eq, bne_eq_false_iff_eq, Bool.or_eq_true, Bool.and_eq_true, Bool.or_eq_false_iff, Bool.and_eq_false_imp])
    constructor
    · rintro ⟨⟨⟨h1, h2⟩, h3⟩, h4⟩
      exact ⟨⟨h1.1, h1.2, by omega⟩, hs.1 ⟨h3, h4⟩⟩
    · rintro ⟨⟨h1, h2, h3⟩, h4⟩
      have := hs.2 h4
      exact ⟨⟨⟨⟨h1, h2⟩, by omega⟩, this.1⟩, this.2⟩
  · rw [h12 (Or.inl hk1)]
    exact ends_bool rfl rfl
  · rw [h12 (Or.inr hk2)]
    exact ends_bool rfl rfl
  · simp only [pre87]; exact ⟨⟨by omega, re⟩, hd0, hd1⟩
  · rw [hat, if_neg hk, Bool.eq_iff_iff]
    by_cases hn : o.n = 0
    · rw [if_neg (by omega), if_neg (by omega)]
      have hw : withinB list o.e = true ↔ (o.e.kind ≠ 0 ∧ 7 < list) ∧ (list = 8 ∨ o.e.kind = 2 ∨ o.e.kind = 1 ∧ o.e.old.kind = 1 ∧ o.e.new.kind = 1) := by
        unfold withinB
        split
        · exact ⟨fun h => (nomatch h), fun h => by omega⟩
        · split
          · exact ⟨fun _ => ⟨by omega, by omega⟩, fun _ => rfl⟩
          · rw [decide_eq_true_eq]
            exact ⟨fun h => ⟨by omega, Or.inr (Or.inr h)⟩, fun h => by omega⟩
      (simp only [bif_tl, bif_fr, bif_tlf, bif_frf, Bool.not_eq_true', Bool.not_eq_false', decide_eq_true_eq, decide_eq_false_iff_not, beq_iff_eq, beq_eq_false_iff_ne, bne_iff_ne, ne_eq, bne_eq_false_iff_eq, Bool.or_eq_true, Bool.and_eq_true, Bool.or_eq_false_iff, Bool.and_eq_false_imp])
      rw [hw]
      constructor
      · rintro ⟨⟨h1, h2⟩, h3⟩
        exact ⟨⟨⟨by omega, h2.1⟩, h3⟩, h2.2⟩
      · rintro ⟨⟨⟨h1, h2⟩, h3⟩, h4⟩
        exact ⟨⟨⟨hn, by omega⟩, h2, h4⟩, h3⟩
    · rw [if_pos (by omega)]
      (simp only [bif_tl, bif_fr, bif_tlf, bif_frf, Bool.not_eq_true', Bool.not_eq_false', decide_eq_true_eq, decide_eq_false_iff_not, beq_iff_eq, beq_eq_false_iff_ne, bne_iff_ne, ne_eq, bne_eq_false_iff_eq, Bool.or_eq_true, Bool.and_eq_true, Bool.or_eq_false_iff, Bool.and_eq_false_imp])
      exact ⟨fun h => absurd h.1.1.1 hn, fun h => (nomatch h)⟩
  · rw [hat, if_neg hk]
    by_cases hn : o.n ≠ 0 ∨ o.kind < 0 ∨ 3 < o.kind
    · rw [if_pos hn]
    · exfalso; omega

theorem c87_ : Contract Try.prog cfg 87 spec87 ∧ Contract Try.prog cfg 121 spec121 ∧ Contract Try.prog cfg 122 spec122 ∧ Contract Try.prog cfg 132 spec132 :=
  make87_ c118 c119 c120 c48 c135 c138 c56 b87 b121 b122 b132

theorem c58 : Contract Try.prog cfg 58 spec58 := by
  refine make58 c87_.1 ?_
  intro e _ hp
  simp only [pre58] at hp
  refine vc58 _ _ ?_
  (simp only [Tree.eta, Edit.eta, Tree.kind_mk, Tree.words_mk, Tree.kids_mk])
  refine ⟨by simp only [pre87]; exact ⟨hp, by omega, by omega⟩, ?_⟩
  exact ends_bool rfl rfl

end Go.AM.Ytlahjnelghpmeaa

namespace Go.AM.Ytlahjnelghpmeaa
open Go.AM Go.Proofs

def pre6 (a : Tree × Unit) : Prop := small a.1
/-! cento/centolaw07.TreeNorms -/
/-! cento/centolaw07.TreeEqual -/
end Go.AM.Ytlahjnelghpmeaa

namespace Go.AM.Ytlahjnelghpmeaa
open Go.AM Go.Proofs

theorem trim_idem (l : List Int) : trim (trim l) = trim l := by
  induction l with
  | nil => rfl
  | cons x r ih =>
    rw [trim_cons]
    split
    · rfl
    · rename_i h
      rw [trim_cons, ih, if_neg h]

theorem trimK_idem (l : List Tree) : trimK (trimK l) = trimK l := by
  induction l with
  | nil => rfl
  | cons x r ih =>
    rw [trimK_cons]
    split
    · rfl
    · rename_i h
      rw [trimK_cons, ih, if_neg h]

/-- Every one is its own Norm. -/
def Normed : List Tree → Prop
  | [] => True
  | t :: r => normT t = t ∧ Normed r

theorem Normed.eq : ∀ {l : List Tree}, Normed l → normK l = l
  | [], _ => rfl
  | t :: r, h => by simp only [normK, h.1, Normed.eq h.2]

theorem Normed.trim : ∀ {l : List Tree}, Normed l → Normed (trimK l)
  | [], _ => trivial
  | t :: r, h => by
    rw [trimK_cons]
    split
    · trivial
    · exact ⟨h.1, Normed.trim h.2⟩

mutual
theorem normT_idem : ∀ (t : Tree), normT (normT t) = normT t
  | .mk k w ks => by
    have h := normK_normed ks
    by_cases h0 : k = 0
    · simp [normT, h0, Tree.nil]
    · by_cases h1 : k = 1
      · subst h1
        simp only [normT, if_neg h0, if_true, trim_idem, h.trim.eq, trimK_idem]
      · simp only [normT, if_neg h0, if_neg h1, h.eq]
theorem normK_normed : ∀ (ks : List Tree), Normed (normK ks)
  | [] => trivial
  | t :: r => ⟨normT_idem t, normK_normed r⟩
end


end Go.AM.Ytlahjnelghpmeaa

namespace Go.AM.Ytlahjnelghpmeaa
open Go.AM Go.Proofs

theorem nrmOs_append (list : Int) : ∀ (a b : List Op) (s : Wst), nrmOs list (a ++ b) s = nrmOs list b (nrmOs list a s)
  | [], b, s => rfl
  | o :: r, b, s => by simp only [List.cons_append, nrmOs, nrmOs_append list r]

theorem keepO_keepO : ∀ (l : List Op) (m n : Int), keepO (keepO l m) n = keepO l (m + n)
  | [], m, n => by simp [keepO]
  | [o], m, n => by
    by_cases h : o.kind = 0
    · simp [keepO, h, Int.add_assoc]
    · simp [keepO, h]
  | o :: p :: r, m, n => by
    have ih := keepO_keepO (p :: r) m n
    cases hk : keepO (p :: r) m with
    | nil => cases r <;> simp [keepO] at hk; split at hk <;> cases hk
    | cons x y =>
      rw [hk] at ih
      simp only [keepO]
      rw [hk]
      simp only [keepO]
      rw [ih]

/-- Kept behind: put behind, or merged with what is kept last. -/
theorem keepO_cases : ∀ (l : List Op) (n : Int), keepO l n = l ++ [⟨0, n, [], Edit.nil⟩] ∨ ∃ a o, l = a ++ [o] ∧ o.kind = 0 ∧ keepO l n = a ++ [⟨o.kind, o.n + n, o.l, o.e⟩]
  | [], n => Or.inl rfl
  | [o], n => by
    by_cases h : o.kind = 0
    · exact Or.inr ⟨[], o, rfl, h, by simp [keepO, h]⟩
    · exact Or.inl (by simp [keepO, h])
  | o :: p :: r, n => by
    rcases keepO_cases (p :: r) n with h | ⟨a, q, h1, h2, h3⟩
    · exact Or.inl (by simp only [keepO, h, List.cons_append])
    · exact Or.inr ⟨o :: a, q, by rw [h1]; rfl, h2, by simp only [keepO, h3, List.cons_append]⟩

def W0 : Wst := ⟨[], [], []⟩
theorem nrm_keep (list : Int) (o : Op) (s : Wst) (h : o.kind = 0) : nrmOs list [o] s = keepW s o.n := by
  simp only [nrmOs, nrmOp_at, h, if_true]

theorem normsT_idem (l : List Tree) : normsT (normsT l) = normsT l := by
  simp only [normsT, List.map_map]
  congr 1
  funext t
  exact normT_idem t

theorem normsT_append (a b : List Tree) : normsT (a ++ b) = normsT a ++ normsT b := by simp [normsT]


/-! ## it has no more edits and steps -/

end Go.AM.Ytlahjnelghpmeaa

namespace Go.AM.Ytlahjnelghpmeaa
open Go.AM Go.Proofs

/-! (*cento/normal.writer).flush -/
/-! (*cento/normal.writer).keep -/
/-! cento/normal.wait -/
/-! cento/normal.wait -/
/-! cento/normal.Idle -/
/-! cento/centoref22.idle -/
end Go.AM.Ytlahjnelghpmeaa

namespace Go.AM.Ytlahjnelghpmeaa
open Go.AM Go.Proofs

end Go.AM.Ytlahjnelghpmeaa

namespace Go.AM.Ytlahjnelghpmeaa
open Go.AM Go.Proofs

/-! cento/normal.Edit -/
/-! cento/normal.Ops -/
end Go.AM.Ytlahjnelghpmeaa

namespace Go.AM.Ytlahjnelghpmeaa
open Go.AM Go.Proofs

end Go.AM.Ytlahjnelghpmeaa

namespace Go.AM.Ytlahjnelghpmeaa
open Go.AM Go.Proofs

/-! cento/centoref22.Edit -/
/-! cento/centoref22.Ops -/
end Go.AM.Ytlahjnelghpmeaa

namespace Go.AM.Ytlahjnelghpmeaa
open Go.AM Go.Proofs

end Go.AM.Ytlahjnelghpmeaa

namespace Go.AM.Ytlahjnelghpmeaa
open Go.AM Go.Proofs

theorem turnOs_append : ∀ (a b : List Op), turnOs (a ++ b) = turnOs a ++ turnOs b
  | [], b => rfl
  | o :: r, b => by simp only [List.cons_append, turnOs, turnOs_append r b]

theorem turnW_turn (w : WEdit) : turnW (turnW w) = w := by cases w; rfl
theorem map_turnW (l : List WEdit) : (l.map turnW).map turnW = l := by
  rw [List.map_map]
  have : turnW ∘ turnW = id := by funext w; exact turnW_turn w
  rw [this, List.map_id]

/-- What turned steps come to (w), and what the steps themselves do (v). -/
def Tw (list : Int) (w v : Wst) : Prop := nrmOs list (turnOs w.out) W0 = ⟨v.out, [], []⟩ ∧ (v.gone = w.brought ∧ v.brought = w.gone) ∧ normsT w.gone = w.gone ∧ normsT w.brought = w.brought

theorem tw_flush {list : Int} {w v : Wst} (h : Tw list w v) : nrmOs list (turnOs (flushW w).out) W0 = v := by
  obtain ⟨h1, ⟨h2, h3⟩, h4, h5⟩ := h
  obtain ⟨out, g, b⟩ := w
  obtain ⟨vo, vg, vb⟩ := v
  simp only at h2 h3 h4 h5 h1
  rw [h2, h3]
  simp only [flushW, flushO]
  rw [turnOs_append, nrmOs_append, h1, turnOs_append, nrmOs_append]
  by_cases hg : g.length = 0
  · rw [if_pos hg]
    have : g = [] := List.length_eq_zero_iff.1 hg
    subst this
    by_cases hb : b.length = 0
    · rw [if_pos hb]
      have : b = [] := List.length_eq_zero_iff.1 hb
      subst this
      rfl
    · rw [if_neg hb]
      simp [turnOs, turnOp, nrmOs, nrmOp_at, h5]
  · rw [if_neg hg]
    by_cases hb : b.length = 0
    · rw [if_pos hb]
      have : b = [] := List.length_eq_zero_iff.1 hb
      subst this
      simp [turnOs, turnOp, nrmOs, nrmOp_at, h4]
    · rw [if_neg hb]
      simp [turnOs, turnOp, nrmOs, nrmOp_at, h4, h5]

theorem turn_keep (o : Op) (h : o.kind = 0) : turnOs [o] = [o] := by
  obtain ⟨k, n, l, e⟩ := o
  simp only at h
  subst h
  rfl

theorem tw_keep {list : Int} {w v : Wst} (h : Tw list w v) (n : Int) : Tw list (keepW w n) (keepW v n) := by
  have hf := tw_flush h
  refine ⟨?_, ⟨rfl, rfl⟩, rfl, rfl⟩
  show nrmOs list (turnOs (keepO (flushW w).out n)) W0 = ⟨keepO (flushW v).out n, [], []⟩
  rcases keepO_cases (flushW w).out n with e | ⟨a, o, e1, e2, e3⟩
  · rw [e, turnOs_append, nrmOs_append, hf, turn_keep _ rfl, nrm_keep _ _ _ rfl]
    rfl
  · rw [e1, turnOs_append, nrmOs_append, turn_keep _ e2, nrm_keep _ _ _ e2] at hf
    rw [e3, turnOs_append, nrmOs_append, turn_keep ⟨o.kind, o.n + n, o.l, o.e⟩ e2, nrm_keep list ⟨o.kind, o.n + n, o.l, o.e⟩ _ e2]
    have ho : keepO (flushW (nrmOs list (turnOs a) W0)).out o.n = v.out ∧ v.gone = [] ∧ v.brought = [] := by
      rw [← hf]; exact ⟨rfl, rfl, rfl⟩
    have hw : (flushW v).out = v.out := by simp [flushW, flushO, ho.2.1, ho.2.2]
    show (⟨keepO (flushW (nrmOs list (turnOs a) W0)).out (o.n + n), [], []⟩ : Wst) = _
    rw [← keepO_keepO, ho.1, hw]

theorem nrmKs_len : ∀ (ks : List Kid), (nrmKs ks).length = ks.length
  | [] => rfl
  | k :: r => by simp only [nrmKs, List.length_cons, nrmKs_len r]
theorem turnKs_len : ∀ (ks : List Kid), (turnKs ks).length = ks.length
  | [] => rfl
  | k :: r => by simp only [turnKs, List.length_cons, turnKs_len r]

theorem idle_turn (list : Int) (e : Edit) : idleE list (nrmE (turnE e)) = idleE list (nrmE e) := by
  obtain ⟨k, o, n, w, ks, l, os⟩ := e
  simp only [turnE, nrmE]
  by_cases k1 : k = 1
  · rw [if_pos k1, if_pos k1]; rfl
  · rw [if_neg k1, if_neg k1]
    by_cases k2 : k = 2
    · rw [if_pos k2, if_pos k2]; simp only [idleE, Edit.kind_mk, Edit.words_mk, Edit.kids_mk, List.length_map, nrmKs_len, turnKs_len]
    · rw [if_neg k2, if_neg k2]
      by_cases k3 : k = 3
      · rw [if_pos k3, if_pos k3]; rfl
      · rw [if_neg k3, if_neg k3]

theorem tw_op {list : Int} {w v : Wst} {o : Op} (h : Tw list w v) (hi : nrmE (turnE (nrmE (turnE o.e))) = nrmE o.e) : Tw list (nrmOp list (turnOp o) w) (nrmOp list o v) := by
  obtain ⟨k, n, l, e⟩ := o
  simp only at hi
  have hq := h
  obtain ⟨h1, ⟨h2, h3⟩, h4, h5⟩ := hq
  by_cases k1 : k = 1
  · subst k1
    have e1 : turnOp ⟨1, n, l, e⟩ = ⟨2, n, l, e⟩ := rfl
    rw [e1, nrmOp_at, nrmOp_at]
    simp only [show ¬(2 : Int) = 0 by decide, show ¬(2 : Int) = 1 by decide, show ¬(1 : Int) = 0 by decide, if_true, if_false]
    exact ⟨h1, ⟨by rw [h2], h3⟩, h4, by simp only [normsT_append, normsT_idem, h5]⟩
  by_cases k2 : k = 2
  · subst k2
    have e1 : turnOp ⟨2, n, l, e⟩ = ⟨1, n, l, e⟩ := rfl
    rw [e1, nrmOp_at, nrmOp_at]
    simp only [show ¬(2 : Int) = 0 by decide, show ¬(2 : Int) = 1 by decide, show ¬(1 : Int) = 0 by decide, if_true, if_false]
    exact ⟨h1, ⟨h2, by rw [h3]⟩, by simp only [normsT_append, normsT_idem, h4], h5⟩
  by_cases k3 : k = 3
  · subst k3
    have e1 : turnOp ⟨3, n, l, e⟩ = ⟨3, n, l, turnE e⟩ := rfl
    rw [e1, nrmOp_at, nrmOp_at]
    simp only [show ¬(3 : Int) = 0 by decide, show ¬(3 : Int) = 1 by decide, show ¬(3 : Int) = 2 by decide, if_true, if_false]
    rw [idle_turn]
    by_cases hd : idleE list (nrmE e) = true
    · rw [if_pos hd, if_pos hd]; exact tw_keep h 1
    · rw [if_neg hd, if_neg hd]
      refine ⟨?_, ⟨rfl, rfl⟩, rfl, rfl⟩
      have hf := tw_flush h
      show nrmOs list (turnOs ((flushW w).out ++ [⟨3, 0, [], nrmE (turnE e)⟩])) W0 = _
      rw [turnOs_append, nrmOs_append, hf]
      have e2 : turnOs [(⟨3, 0, [], nrmE (turnE e)⟩ : Op)] = [⟨3, 0, [], turnE (nrmE (turnE e))⟩] := rfl
      rw [e2]
      simp only [nrmOs, nrmOp_at]
      simp only [show ¬(3 : Int) = 0 by decide, show ¬(3 : Int) = 1 by decide, show ¬(3 : Int) = 2 by decide, if_true, if_false]
      rw [hi, if_neg hd]
  · have e1 : turnOp ⟨k, n, l, e⟩ = ⟨k, n, l, e⟩ := by simp only [turnOp]; rw [if_neg k1, if_neg k2, if_neg k3]
    rw [e1, nrmOp_at, nrmOp_at]
    by_cases k0 : k = 0
    · simp only [k0, if_true]; exact tw_keep h n
    · simp only [k0, k1, k2, k3, if_false]; exact h

mutual
theorem twice : ∀ (e : Edit), nrmE (turnE (nrmE (turnE e))) = nrmE e
  | .mk k o n w ks l os => by
    have h1 := twice_Ks ks
    have h2 := twice_Os l os W0 W0 ⟨rfl, ⟨rfl, rfl⟩, rfl, rfl⟩
    have h3 := tw_flush h2
    rw [turnE, nrmE, nrmE]
    by_cases k1 : k = 1
    · rw [if_pos k1, if_pos k1, turnE, nrmE, if_pos k1, normT_idem, normT_idem]
    · rw [if_neg k1, if_neg k1]
      by_cases k2 : k = 2
      · rw [if_pos k2, if_pos k2, turnE, nrmE, if_neg k1, if_pos k2, map_turnW, h1]
      · rw [if_neg k2, if_neg k2]
        by_cases k3 : k = 3
        · rw [if_pos k3, if_pos k3, turnE, nrmE, if_neg k1, if_neg k2, if_pos k3]
          show Edit.mk k Tree.nil Tree.nil [] [] l (flushW (nrmOs l (turnOs (flushW (nrmOs l (turnOs os) W0)).out) W0)).out = Edit.mk k Tree.nil Tree.nil [] [] l (flushW (nrmOs l os W0)).out
          rw [h3]
        · rw [if_neg k3, if_neg k3, turnE, nrmE, if_neg k1, if_neg k2, if_neg k3]
theorem twice_Ks : ∀ (ks : List (KidOf Edit)), nrmKs (turnKs (nrmKs (turnKs ks))) = nrmKs ks
  | [] => rfl
  | k :: r => by
    have h1 := twice_Kid k
    have h2 := twice_Ks r
    simp only [nrmKs, turnKs]
    rw [h1, h2]
theorem twice_Kid : ∀ (k : KidOf Edit), nrmKid (turnKid (nrmKid (turnKid k))) = nrmKid k
  | ⟨a, e⟩ => by
    have h := twice e
    simp only [nrmKid, turnKid]
    rw [h]
theorem twice_Os (list : Int) : ∀ (os : List (OpOf Edit)) (w v : Wst), Tw list w v → Tw list (nrmOs list (turnOs os) w) (nrmOs list os v)
  | [], w, v, h => h
  | o :: r, w, v, h => by
    have h1 := twice_Op list o w v h
    exact twice_Os list r _ _ h1
theorem twice_Op (list : Int) : ∀ (o : OpOf Edit) (w v : Wst), Tw list w v → Tw list (nrmOp list (turnOp o) w) (nrmOp list o v)
  | ⟨k, n, l, e⟩, w, v, h => tw_op (o := ⟨k, n, l, e⟩) h (twice e)
end

end Go.AM.Ytlahjnelghpmeaa

namespace Go.AM.Ytlahjnelghpmeaa
open Go.AM Go.Proofs


end Go.AM.Ytlahjnelghpmeaa

namespace Go.AM.Ytlahjnelghpmeaa
open Go.AM Go.Proofs


end Go.AM.Ytlahjnelghpmeaa

namespace Go.AM.Ytlahjnelghpmeaa
open Go.AM Go.Proofs


end Go.AM.Ytlahjnelghpmeaa

namespace Go.AM.Ytlahjnelghpmeaa
open Go.AM Go.Proofs

/-! ## mass -/


end Go.AM.Ytlahjnelghpmeaa

namespace Go.AM.Ytlahjnelghpmeaa
open Go.AM Go.Proofs

/-! cento/centolaw22.awake -/
/-! cento/centolaw22.NormalWrites -/
/-! cento/centolaw22.NormalOnce -/
end Go.AM.Ytlahjnelghpmeaa

namespace Go.AM.Ytlahjnelghpmeaa
open Go.AM Go.Proofs

/-- Right, but for how much is kept. -/
def rOp (list : Int) (d : Int) (o : Op) : Prop := (o.kind = 0 → 1 ≤ o.n ∧ o.l.length = 0 ∧ sameE o.e = true) ∧ (o.kind ≠ 0 → rightOp list o d = true)

structure OkW (list d : Int) (w : Wst) : Prop where
  out : ∀ o ∈ w.out, rOp list d o
  gone : treesOk list w.gone = true
  brought : treesOk list w.brought = true

/-! ## lengths -/


end Go.AM.Ytlahjnelghpmeaa

namespace Go.AM.Ytlahjnelghpmeaa
open Go.AM Go.Proofs

end Go.AM.Ytlahjnelghpmeaa

namespace Go.AM.Ytlahjnelghpmeaa
open Go.AM Go.Proofs

def args86 : ArgL (Int × Unit) := (.cons (aInt .u64) .nil)
def pre86 (a : Int × Unit) : Prop := True
noncomputable def res86 (a : Int × Unit) : V U := .agg [.int .i64 (Tree.kind (Tree.mk 10 [a.1] [])), .slice (U := U) .u64 (Tree.words (Tree.mk 10 [a.1] [])) .unk, .slice (U := U) .tree (Tree.kids (Tree.mk 10 [a.1] [])) .unk]
noncomputable def spec86 : Fs U := fs args86 (fun a => [pre86 a]) res86

def args55 : ArgL (Unit) := .nil
def pre55 (a : Unit) : Prop := True
noncomputable def res55 (a : Unit) : V U := .c (.bool true)
noncomputable def spec55 : Fs U := fs args55 (fun a => [pre55 a]) res55

def args17 : ArgL (Edit × Unit) := (.cons (aEl .edit) .nil)
def pre17 (a : Edit × Unit) : Prop := smallE a.1 ∧ rngE a.1
noncomputable def res17 (a : Edit × Unit) : V U := .c (.bool true)
noncomputable def spec17 : Fs U := fs args17 (fun a => [pre17 a]) res17

/-! cento/centolaw20.awake$1 -/
noncomputable def know86 : List (FuncId × Fs U) := []
def lv86 : Lives U := fun i => match i with
  | 0 => ([(0, []), (2, [])], [((.loc 2), [])])
  | 1 => ([(2, [])], [((.loc 2), [])])
  | _ => ([], [])
abbrev W86 (n : Int) (Q : AExit → LSt U → Prop) : Prop := awp cfg (know know86) (drawOk cfg (know know86)) Try.f86.ntmps lv86 (cd Try.f86 []) (⟨[(0, .c (.int .u64 n))], [], []⟩ : LSt U) Q
/-- the body -/
theorem vc86 (n : Int) (Q : AExit → LSt U → Prop) (h : Q .ret (⟨[(2, .ptr (.loc 2) 0)], [((.loc 2), [.int .i64 10, .slice (U := U) .u64 ([n]) .full, .nils])], []⟩ : LSt U)) :
    W86 n Q := by
  have e_ : (awp cfg (know know86) (drawOk cfg (know know86)) Try.f86.ntmps lv86 (cd Try.f86 []) (⟨[(0, .c (.int .u64 n))], [], []⟩ : LSt U) Q) = (((Q .ret (⟨[(2, .ptr (.loc 2) 0)], [((.loc 2), [.int .i64 10, .slice (U := U) .u64 ([n]) .full, .nils])], []⟩ : LSt U)))) := by kernel_rfl
  exact e_.mpr h
def Body86 (n : Int)  : Prop := awp cfg (know (know86)) (drawOk cfg (know (know86))) Try.f86.ntmps lv86 (cd Try.f86 []) (entry (args86.can (n, ())) []) (EndsQ cfg Try.f86.ntmps Try.f86.results.toList (res86 (n, ())) [])
theorem make86 (hb : ∀ (n : Int) (_ : Unit), pre86 (n, ()) → Body86 n) : Contract Try.prog cfg 86 spec86 :=
  contract_flat (l := []) cfgOk rfl (trivial) lv86 Try.func86 rfl rfl 1 (fun _ => rfl) (by decide) (fun ⟨n, _⟩ => hb n ())

/-! cento/centolaw20.awake -/
noncomputable def know55 : List (FuncId × Fs U) := [(86, spec86), (56, spec56), (58, spec58)]
def lv55 : Lives U := fun i => match i with
  | 0 => ([], [])
  | 1 => ([(1, [])], [])
  | 2 => ([(2, [])], [((.loc 2), [])])
  | 3 => ([(2, []), (3, []), (4, [])], [((.loc 2), [])])
  | 4 => ([(0, [])], [])
  | _ => ([], [])
abbrev W55 (Q : AExit → LSt U → Prop) : Prop := awp cfg (know know55) (drawOk cfg (know know55)) Try.f55.ntmps lv55 (cd Try.f55 []) (⟨[], [], []⟩ : LSt U) Q
/-- the body -/
theorem vc55 (Q : AExit → LSt U → Prop) (h : ∀ y_1, y_1 = ((Tree.mk 10 [5] [])) → ∀ y_2, y_2 = ((Tree.mk 10 [6] [])) → ∀ y_3, y_3 = ((Tree.mk 10 [7] [])) → ∀ y_4, y_4 = (Edit.mk 0 (Tree.mk 0 ([]) ([])) (Tree.mk 0 ([]) ([])) ([]) ([]) 0 ([])) → ∀ y_5, y_5 = (Edit.mk 3 (Tree.mk 0 ([]) ([])) (Tree.mk 0 ([]) ([])) ([]) ([]) 4 ([(OpOf.mk 0 2 ([]) y_4 : Op), (OpOf.mk 1 0 ([y_1]) y_4 : Op), (OpOf.mk 2 0 ([y_2, y_3]) y_4 : Op)])) → (pre86 (5, ())) ∧ (pre86 (6, ())) ∧ (pre86 (7, ())) ∧ ((pre56 (y_5, ())) ∧ ((pre58 (y_5, ())) ∧ (Q .ret (⟨[(0, .c (.bool (bif (bif (rightE y_5 64) then (((lenAW (Edit.ops y_5) 0) : Int) == 3) else false) then (((lenBW (Edit.ops y_5) 0) : Int) == 4) else false)))], [], []⟩ : LSt U))))) :
    W55 Q := by
  have e_ : (awp cfg (know know55) (drawOk cfg (know know55)) Try.f55.ntmps lv55 (cd Try.f55 []) (⟨[], [], []⟩ : LSt U) Q) = (let y_1 := (reTree (Tree.mk 10 [5] [])); let y_2 := (reTree (Tree.mk 10 [6] [])); let y_3 := (reTree (Tree.mk 10 [7] [])); let y_4 := (Edit.mk 0 (Tree.mk 0 ([]) ([])) (Tree.mk 0 ([]) ([])) ([]) ([]) 0 ([])); let y_5 := (Edit.mk 3 (Tree.mk 0 ([]) ([])) (Tree.mk 0 ([]) ([])) ([]) ([]) 4 ([(OpOf.mk 0 2 ([]) y_4 : Op), (OpOf.mk 1 0 ([y_1]) y_4 : Op), (OpOf.mk 2 0 ([y_2, y_3]) y_4 : Op)])); (((pre86 (5, ())) ∧ (pre86 (6, ())) ∧ (pre86 (7, ())) ∧ ((pre56 (y_5, ())) ∧ ((pre58 (y_5, ())) ∧ ((rightE y_5 64) = true → (rightE y_5 64) = true) ∧ (((rightE y_5 64) = true → (rightE y_5 64) = true)) ∧ ((bif (rightE y_5 64) then (((lenAW (Edit.ops y_5) 0) : Int) == 3) else false) = true → (bif (rightE y_5 64) then (((lenAW (Edit.ops y_5) 0) : Int) == 3) else false) = true) ∧ (((bif (rightE y_5 64) then (((lenAW (Edit.ops y_5) 0) : Int) == 3) else false) = true → (bif (rightE y_5 64) then (((lenAW (Edit.ops y_5) 0) : Int) == 3) else false) = true)) ∧ (Q .ret (⟨[(0, .c (.bool (bif (bif (rightE y_5 64) then (((lenAW (Edit.ops y_5) 0) : Int) == 3) else false) then (((lenBW (Edit.ops y_5) 0) : Int) == 4) else false)))], [], []⟩ : LSt U))))))) := by kernel_rfl
  exact e_.mpr (by intro y_1 y_2 y_3 y_4 y_5; exact ⟨(h y_1 (reTree_eq _) y_2 (reTree_eq _) y_3 (reTree_eq _) y_4 rfl y_5 rfl).1, (h y_1 (reTree_eq _) y_2 (reTree_eq _) y_3 (reTree_eq _) y_4 rfl y_5 rfl).2.1, (h y_1 (reTree_eq _) y_2 (reTree_eq _) y_3 (reTree_eq _) y_4 rfl y_5 rfl).2.2.1, ⟨(h y_1 (reTree_eq _) y_2 (reTree_eq _) y_3 (reTree_eq _) y_4 rfl y_5 rfl).2.2.2.1, ⟨(h y_1 (reTree_eq _) y_2 (reTree_eq _) y_3 (reTree_eq _) y_4 rfl y_5 rfl).2.2.2.2.1, fun x => x, (by generalize (rightE y_5 64) = b0; revert b0; decide), fun x => x, (by generalize (((lenAW (Edit.ops y_5) 0) : Int) == 3) = b0; generalize (rightE y_5 64) = b1; revert b0 b1; decide), (h y_1 (reTree_eq _) y_2 (reTree_eq _) y_3 (reTree_eq _) y_4 rfl y_5 rfl).2.2.2.2.2⟩⟩⟩)
def Body55  : Prop := awp cfg (know (know55)) (drawOk cfg (know (know55))) Try.f55.ntmps lv55 (cd Try.f55 []) (entry (args55.can (())) []) (EndsQ cfg Try.f55.ntmps Try.f55.results.toList (res55 (())) [])
theorem make55 (c86 : Contract Try.prog cfg 86 spec86) (c56 : Contract Try.prog cfg 56 spec56) (c58 : Contract Try.prog cfg 58 spec58) (hb : ∀ (_ : Unit), pre55 (()) → Body55 ) : Contract Try.prog cfg 55 spec55 :=
  contract_flat (l := [(86, spec86), (56, spec56), (58, spec58)]) cfgOk rfl (⟨c86, c56, c58, trivial⟩) lv55 Try.func55 rfl rfl 0 (fun _ => rfl) (by decide) (fun _ => hb  ())

/-! cento/centolaw20.EditRight -/
/-! cento/centolaw20.EditParts -/
noncomputable def know17 : List (FuncId × Fs U) := [(43, spec43), (54, spec54), (55, spec55), (58, spec58)]
def lv17 : Lives U := fun i => match i with
  | 0 => ([(1, [])], [((.loc 1), [])])
  | 1 => ([(1, []), (12, [])], [((.loc 1), [])])
  | 2 => ([(2, [])], [])
  | 3 => ([(1, []), (3, [])], [((.loc 1), [])])
  | 4 => ([(1, []), (3, []), (18, [])], [((.loc 1), [])])
  | 5 => ([(1, []), (3, [])], [((.loc 1), [])])
  | 6 => ([(1, []), (3, []), (38, [])], [((.loc 1), [])])
  | 7 => ([(2, [])], [])
  | 8 => ([(1, []), (4, [])], [((.loc 1), [])])
  | 9 => ([(1, []), (4, []), (43, [])], [((.loc 1), [])])
  | 10 => ([(1, []), (4, [])], [((.loc 1), [])])
  | 11 => ([(1, []), (4, []), (71, [])], [((.loc 1), [])])
  | 12 => ([(2, [])], [])
  | 13 => ([(2, [])], [])
  | _ => ([], [])
def head17_0 (e : Edit) (x3 : Int) : LSt U := (⟨[(1, .ptr (.loc 1) 0), (3, .c (.int .i64 x3))], [((.loc 1), [.int .i64 (Edit.kind e), .int .i64 (Tree.kind (Edit.old e)), .slice (U := U) .u64 (Tree.words (Edit.old e)) .unk, .slice (U := U) .tree (Tree.kids (Edit.old e)) .unk, .int .i64 (Tree.kind (Edit.new e)), .slice (U := U) .u64 (Tree.words (Edit.new e)) .unk, .slice (U := U) .tree (Tree.kids (Edit.new e)) .unk, .slice (U := U) .wedit (Edit.words e) .unk, .slice (U := U) .kid (Edit.kids e) .unk, .int .i64 (Edit.list e), .slice (U := U) .op (Edit.ops e) .unk])], []⟩ : LSt U)
def head17_1 (e : Edit) (x4_a : Int) : LSt U := (⟨[(1, .ptr (.loc 1) 0), (4, .c (.int .i64 x4_a))], [((.loc 1), [.int .i64 (Edit.kind e), .int .i64 (Tree.kind (Edit.old e)), .slice (U := U) .u64 (Tree.words (Edit.old e)) .unk, .slice (U := U) .tree (Tree.kids (Edit.old e)) .unk, .int .i64 (Tree.kind (Edit.new e)), .slice (U := U) .u64 (Tree.words (Edit.new e)) .unk, .slice (U := U) .tree (Tree.kids (Edit.new e)) .unk, .slice (U := U) .wedit (Edit.words e) .unk, .slice (U := U) .kid (Edit.kids e) .unk, .int .i64 (Edit.list e), .slice (U := U) .op (Edit.ops e) .unk])], []⟩ : LSt U)
abbrev W17 (e : Edit) (Q : AExit → LSt U → Prop) : Prop := awp cfg (know know17) (drawOk cfg (know know17)) Try.f17.ntmps lv17 (cd Try.f17 []) (⟨[(0, .agg [.int .i64 (Edit.kind e), .int .i64 (Tree.kind (Edit.old e)), .slice (U := U) .u64 (Tree.words (Edit.old e)) .unk, .slice (U := U) .tree (Tree.kids (Edit.old e)) .unk, .int .i64 (Tree.kind (Edit.new e)), .slice (U := U) .u64 (Tree.words (Edit.new e)) .unk, .slice (U := U) .tree (Tree.kids (Edit.new e)) .unk, .slice (U := U) .wedit (Edit.words e) .unk, .slice (U := U) .kid (Edit.kids e) .unk, .int .i64 (Edit.list e), .slice (U := U) .op (Edit.ops e) .unk])], [], []⟩ : LSt U) Q
/-- the body -/
theorem vc17 (e : Edit) (Q : AExit → LSt U → Prop) (h : ∀ y_1, y_1 = (e) → (pre54 (y_1, ())) ∧ ((!(!(decide (0 ≤ leftE y_1 80 3000)))) = true → pre58 (y_1, ())) ∧ (((bif (!(decide (0 ≤ leftE y_1 80 3000))) then true else (!(rightE y_1 64))) = true → (pre55 (())) ∧ (Q .ret (⟨[(2, .c (.bool true))], [], []⟩ : LSt U))) ∧ ((bif (!(decide (0 ≤ leftE y_1 80 3000))) then true else (!(rightE y_1 64))) = false → LoopWp (awp cfg (know know17) (drawOk cfg (know know17)) Try.f17.ntmps lv17 (cd Try.f17 [1, 1, 0, 1, 0, 0])) (head17_0 e 0) (AExit.inBlock 0 (seqK cfg (know know17) (drawOk cfg (know know17)) Try.f17.ntmps lv17 (cd Try.f17 [1, 1, 1]) Q))))) :
    W17 e Q := by
  have e_ : (awp cfg (know know17) (drawOk cfg (know know17)) Try.f17.ntmps lv17 (cd Try.f17 []) (⟨[(0, .agg [.int .i64 (Edit.kind e), .int .i64 (Tree.kind (Edit.old e)), .slice (U := U) .u64 (Tree.words (Edit.old e)) .unk, .slice (U := U) .tree (Tree.kids (Edit.old e)) .unk, .int .i64 (Tree.kind (Edit.new e)), .slice (U := U) .u64 (Tree.words (Edit.new e)) .unk, .slice (U := U) .tree (Tree.kids (Edit.new e)) .unk, .slice (U := U) .wedit (Edit.words e) .unk, .slice (U := U) .kid (Edit.kids e) .unk, .int .i64 (Edit.list e), .slice (U := U) .op (Edit.ops e) .unk])], [], []⟩ : LSt U) Q) = (let y_1 := (reEdit e); ((pre54 (y_1, ())) ∧ ((!(!(decide (0 ≤ leftE y_1 80 3000)))) = true → (!(!(decide (0 ≤ leftE y_1 80 3000)))) = true) ∧ ((!(!(decide (0 ≤ leftE y_1 80 3000)))) = true → pre58 (y_1, ())) ∧ ((!(!(decide (0 ≤ leftE y_1 80 3000)))) = true → (!(!(decide (0 ≤ leftE y_1 80 3000)))) = true) ∧ (((!(decide (0 ≤ leftE y_1 80 3000))) = false → (!(!(decide (0 ≤ leftE y_1 80 3000)))) = true)) ∧ (((bif (!(decide (0 ≤ leftE y_1 80 3000))) then true else (!(rightE y_1 64))) = true → (pre55 (())) ∧ (Q .ret (⟨[(2, .c (.bool true))], [], []⟩ : LSt U))) ∧ ((bif (!(decide (0 ≤ leftE y_1 80 3000))) then true else (!(rightE y_1 64))) = false → (LoopWp (awp cfg (know know17) (drawOk cfg (know know17)) Try.f17.ntmps lv17 (cd Try.f17 [1, 1, 0, 1, 0, 0])) (head17_0 e 0) (AExit.inBlock 0 (seqK cfg (know know17) (drawOk cfg (know know17)) Try.f17.ntmps lv17 (cd Try.f17 [1, 1, 1]) Q))))))) := by kernel_rfl
  exact e_.mpr (by intro y_1; exact ⟨(h y_1 (reEdit_eq _)).1, fun x => x, (h y_1 (reEdit_eq _)).2.1, fun x => x, (by generalize (decide (0 ≤ leftE y_1 80 3000)) = b0; revert b0; decide), ⟨fun c_3 => ⟨((h y_1 (reEdit_eq _)).2.2.1 c_3).1, ((h y_1 (reEdit_eq _)).2.2.1 c_3).2⟩, fun c_3 => ((h y_1 (reEdit_eq _)).2.2.2 c_3)⟩⟩)
abbrev W17_l0 (e : Edit) (x3 : Int) (N0 : LSt U → Prop) (Q : AExit → LSt U → Prop) : Prop := awp cfg (know know17) (drawOk cfg (know know17)) Try.f17.ntmps lv17 (cd Try.f17 [1, 1, 0, 1, 0, 0]) (head17_0 e x3) (AExit.then N0 (AExit.inBlock 0 (seqK cfg (know know17) (drawOk cfg (know know17)) Try.f17.ntmps lv17 (cd Try.f17 [1, 1, 1]) Q)))
/-- the loop at [1, 1, 0, 1, 0] -/
theorem vc17_l0 (e : Edit) (x3 : Int) (N0 : LSt U → Prop) (Q : AExit → LSt U → Prop) (h : ∀ y_1, y_1 = (List.getD (Edit.kids e) (Int.toNat x3) (KidOf.mk 0 Edit.nil)) → ∀ y_2, y_2 = ((KidOf.e y_1)) → ((decide ((x3 : Int) < ((Edit.kids e).length : Int))) = true → ((0 : Int) ≤ x3 ∧ x3 < ((Edit.kids e).length : Int)) ∧ (pre58 (y_2, ())) ∧ ((!(!(rightE y_2 64))) = true → (0 : Int) ≤ x3 ∧ x3 < ((Edit.kids e).length : Int)) ∧ (((bif (!(rightE y_2 64)) then true else (((Edit.kind (KidOf.e y_1)) : Int) == 0)) = true → Q .ret (⟨[(2, .c (.bool false))], [], []⟩ : LSt U)) ∧ ((bif (!(rightE y_2 64)) then true else (((Edit.kind (KidOf.e y_1)) : Int) == 0)) = false → (InR ((x3 : Int) + 1)) ∧ (N0 (head17_0 e ((x3 : Int) + 1)))))) ∧ ((decide ((x3 : Int) < ((Edit.kids e).length : Int))) = false → LoopWp (awp cfg (know know17) (drawOk cfg (know know17)) Try.f17.ntmps lv17 (cd Try.f17 [1, 1, 1, 0, 1, 0, 0])) (head17_1 e 0) (AExit.inBlock 2 (seqK cfg (know know17) (drawOk cfg (know know17)) Try.f17.ntmps lv17 (cd Try.f17 [1, 1, 1, 1]) Q)))) :
    W17_l0 e x3 N0 Q := by
  have e_ : (awp cfg (know know17) (drawOk cfg (know know17)) Try.f17.ntmps lv17 (cd Try.f17 [1, 1, 0, 1, 0, 0]) (head17_0 e x3) (AExit.then N0 (AExit.inBlock 0 (seqK cfg (know know17) (drawOk cfg (know know17)) Try.f17.ntmps lv17 (cd Try.f17 [1, 1, 1]) Q)))) = (let y_1 := (List.getD (Edit.kids e) (Int.toNat x3) (KidOf.mk 0 Edit.nil)); let y_2 := (reEdit (KidOf.e y_1)); (((decide ((x3 : Int) < ((Edit.kids e).length : Int))) = true → ((0 : Int) ≤ x3 ∧ x3 < ((Edit.kids e).length : Int)) ∧ (pre58 (y_2, ())) ∧ ((!(!(rightE y_2 64))) = true → (!(!(rightE y_2 64))) = true) ∧ ((!(!(rightE y_2 64))) = true → (!(!(rightE y_2 64))) = true) ∧ ((!(!(rightE y_2 64))) = true → (!(!(rightE y_2 64))) = true) ∧ ((!(!(rightE y_2 64))) = true → (0 : Int) ≤ x3 ∧ x3 < ((Edit.kids e).length : Int)) ∧ ((!(!(rightE y_2 64))) = true → (!(!(rightE y_2 64))) = true) ∧ ((!(!(rightE y_2 64))) = true → (!(!(rightE y_2 64))) = true) ∧ ((!(!(rightE y_2 64))) = true → (!(!(rightE y_2 64))) = true) ∧ ((!(!(rightE y_2 64))) = true → (!(!(rightE y_2 64))) = true) ∧ (((!(rightE y_2 64)) = false → (!(!(rightE y_2 64))) = true)) ∧ (((bif (!(rightE y_2 64)) then true else (((Edit.kind (KidOf.e y_1)) : Int) == 0)) = true → (Q .ret (⟨[(2, .c (.bool false))], [], []⟩ : LSt U))) ∧ ((bif (!(rightE y_2 64)) then true else (((Edit.kind (KidOf.e y_1)) : Int) == 0)) = false → (InR ((x3 : Int) + 1)) ∧ (N0 (head17_0 e ((x3 : Int) + 1)))))) ∧ ((decide ((x3 : Int) < ((Edit.kids e).length : Int))) = false → (LoopWp (awp cfg (know know17) (drawOk cfg (know know17)) Try.f17.ntmps lv17 (cd Try.f17 [1, 1, 1, 0, 1, 0, 0])) (head17_1 e 0) (AExit.inBlock 2 (seqK cfg (know know17) (drawOk cfg (know know17)) Try.f17.ntmps lv17 (cd Try.f17 [1, 1, 1, 1]) Q)))))) := by kernel_rfl
  exact e_.mpr (by intro y_1 y_2; exact ⟨fun c_4 => ⟨((h y_1 rfl y_2 (reEdit_eq _)).1 c_4).1, ((h y_1 rfl y_2 (reEdit_eq _)).1 c_4).2.1, fun x => x, fun x => x, fun x => x, ((h y_1 rfl y_2 (reEdit_eq _)).1 c_4).2.2.1, fun x => x, fun x => x, fun x => x, fun x => x, (by generalize (rightE y_2 64) = b0; revert b0; decide), ⟨fun c_5 => (((h y_1 rfl y_2 (reEdit_eq _)).1 c_4).2.2.2.1 c_5), fun c_5 => ⟨(((h y_1 rfl y_2 (reEdit_eq _)).1 c_4).2.2.2.2 c_5).1, (((h y_1 rfl y_2 (reEdit_eq _)).1 c_4).2.2.2.2 c_5).2⟩⟩⟩, fun c_4 => ((h y_1 rfl y_2 (reEdit_eq _)).2 c_4)⟩)
abbrev W17_l1 (e : Edit) (x4_a : Int) (N1 : LSt U → Prop) (Q : AExit → LSt U → Prop) : Prop := awp cfg (know know17) (drawOk cfg (know know17)) Try.f17.ntmps lv17 (cd Try.f17 [1, 1, 1, 0, 1, 0, 0]) (head17_1 e x4_a) (AExit.then N1 (AExit.inBlock 2 (seqK cfg (know know17) (drawOk cfg (know know17)) Try.f17.ntmps lv17 (cd Try.f17 [1, 1, 1, 1]) Q)))
/-- the loop at [1, 1, 1, 0, 1, 0] -/
theorem vc17_l1 (e : Edit) (x4_a : Int) (N1 : LSt U → Prop) (Q : AExit → LSt U → Prop) (h : ∀ y_1, y_1 = (e) → ∀ y_2, y_2 = (List.getD (Edit.ops e) (Int.toNat x4_a) Op.nil) → ∀ y_3, y_3 = ((OpOf.e y_2)) → ((decide ((x4_a : Int) < ((Edit.ops e).length : Int))) = true → ((0 : Int) ≤ x4_a ∧ x4_a < ((Edit.ops e).length : Int)) ∧ (pre58 (y_3, ())) ∧ ((!(!(rightE y_3 64))) = true → (0 : Int) ≤ x4_a ∧ x4_a < ((Edit.ops e).length : Int)) ∧ ((!(!(rightE y_3 64))) = true → (0 : Int) ≤ x4_a ∧ x4_a < ((Edit.ops e).length : Int)) ∧ (((bif (!(rightE y_3 64)) then true else ((((OpOf.kind y_2) : Int) == 3) == (((Edit.kind (OpOf.e y_2)) : Int) == 0))) = true → Q .ret (⟨[(2, .c (.bool false))], [], []⟩ : LSt U)) ∧ ((bif (!(rightE y_3 64)) then true else ((((OpOf.kind y_2) : Int) == 3) == (((Edit.kind (OpOf.e y_2)) : Int) == 0))) = false → (InR ((x4_a : Int) + 1)) ∧ (N1 (head17_1 e ((x4_a : Int) + 1)))))) ∧ ((decide ((x4_a : Int) < ((Edit.ops e).length : Int))) = false → (pre43 (y_1, ())) ∧ ((decide ((1 : Int) ≤ (countE y_1))) = true → pre55 (())) ∧ (Q .ret (⟨[(2, .c (.bool (bif (decide ((1 : Int) ≤ (countE y_1))) then true else false)))], [], []⟩ : LSt U)))) :
    W17_l1 e x4_a N1 Q := by
  have e_ : (awp cfg (know know17) (drawOk cfg (know know17)) Try.f17.ntmps lv17 (cd Try.f17 [1, 1, 1, 0, 1, 0, 0]) (head17_1 e x4_a) (AExit.then N1 (AExit.inBlock 2 (seqK cfg (know know17) (drawOk cfg (know know17)) Try.f17.ntmps lv17 (cd Try.f17 [1, 1, 1, 1]) Q)))) = (let y_1 := (reEdit e); let y_2 := (List.getD (Edit.ops e) (Int.toNat x4_a) Op.nil); let y_3 := (reEdit (OpOf.e y_2)); (((decide ((x4_a : Int) < ((Edit.ops e).length : Int))) = true → ((0 : Int) ≤ x4_a ∧ x4_a < ((Edit.ops e).length : Int)) ∧ (pre58 (y_3, ())) ∧ ((!(!(rightE y_3 64))) = true → (!(!(rightE y_3 64))) = true) ∧ ((!(!(rightE y_3 64))) = true → (!(!(rightE y_3 64))) = true) ∧ ((!(!(rightE y_3 64))) = true → (!(!(rightE y_3 64))) = true) ∧ ((!(!(rightE y_3 64))) = true → (0 : Int) ≤ x4_a ∧ x4_a < ((Edit.ops e).length : Int)) ∧ ((!(!(rightE y_3 64))) = true → (!(!(rightE y_3 64))) = true) ∧ ((!(!(rightE y_3 64))) = true → (!(!(rightE y_3 64))) = true) ∧ ((!(!(rightE y_3 64))) = true → (!(!(rightE y_3 64))) = true) ∧ ((!(!(rightE y_3 64))) = true → (!(!(rightE y_3 64))) = true) ∧ ((!(!(rightE y_3 64))) = true → (!(!(rightE y_3 64))) = true) ∧ ((!(!(rightE y_3 64))) = true → (!(!(rightE y_3 64))) = true) ∧ ((!(!(rightE y_3 64))) = true → (0 : Int) ≤ x4_a ∧ x4_a < ((Edit.ops e).length : Int)) ∧ ((!(!(rightE y_3 64))) = true → (!(!(rightE y_3 64))) = true) ∧ ((!(!(rightE y_3 64))) = true → (!(!(rightE y_3 64))) = true) ∧ ((!(!(rightE y_3 64))) = true → (!(!(rightE y_3 64))) = true) ∧ ((!(!(rightE y_3 64))) = true → (!(!(rightE y_3 64))) = true) ∧ ((!(!(rightE y_3 64))) = true → (!(!(rightE y_3 64))) = true) ∧ ((!(!(rightE y_3 64))) = true → (!(!(rightE y_3 64))) = true) ∧ (((!(rightE y_3 64)) = false → (!(!(rightE y_3 64))) = true)) ∧ (((bif (!(rightE y_3 64)) then true else ((((OpOf.kind y_2) : Int) == 3) == (((Edit.kind (OpOf.e y_2)) : Int) == 0))) = true → (Q .ret (⟨[(2, .c (.bool false))], [], []⟩ : LSt U))) ∧ ((bif (!(rightE y_3 64)) then true else ((((OpOf.kind y_2) : Int) == 3) == (((Edit.kind (OpOf.e y_2)) : Int) == 0))) = false → (InR ((x4_a : Int) + 1)) ∧ (N1 (head17_1 e ((x4_a : Int) + 1)))))) ∧ ((decide ((x4_a : Int) < ((Edit.ops e).length : Int))) = false → (pre43 (y_1, ())) ∧ ((decide ((1 : Int) ≤ (countE y_1))) = true → pre55 (())) ∧ (((decide ((1 : Int) ≤ (countE y_1))) = true → (decide ((1 : Int) ≤ (countE y_1))) = true)) ∧ (Q .ret (⟨[(2, .c (.bool (bif (decide ((1 : Int) ≤ (countE y_1))) then true else false)))], [], []⟩ : LSt U))))) := by kernel_rfl
  exact e_.mpr (by intro y_1 y_2 y_3; exact ⟨fun c_6 => ⟨((h y_1 (reEdit_eq _) y_2 rfl y_3 (reEdit_eq _)).1 c_6).1, ((h y_1 (reEdit_eq _) y_2 rfl y_3 (reEdit_eq _)).1 c_6).2.1, fun x => x, fun x => x, fun x => x, ((h y_1 (reEdit_eq _) y_2 rfl y_3 (reEdit_eq _)).1 c_6).2.2.1, fun x => x, fun x => x, fun x => x, fun x => x, fun x => x, fun x => x, ((h y_1 (reEdit_eq _) y_2 rfl y_3 (reEdit_eq _)).1 c_6).2.2.2.1, fun x => x, fun x => x, fun x => x, fun x => x, fun x => x, fun x => x, (by generalize (rightE y_3 64) = b0; revert b0; decide), ⟨fun c_7 => (((h y_1 (reEdit_eq _) y_2 rfl y_3 (reEdit_eq _)).1 c_6).2.2.2.2.1 c_7), fun c_7 => ⟨(((h y_1 (reEdit_eq _) y_2 rfl y_3 (reEdit_eq _)).1 c_6).2.2.2.2.2 c_7).1, (((h y_1 (reEdit_eq _) y_2 rfl y_3 (reEdit_eq _)).1 c_6).2.2.2.2.2 c_7).2⟩⟩⟩, fun c_6 => ⟨((h y_1 (reEdit_eq _) y_2 rfl y_3 (reEdit_eq _)).2 c_6).1, ((h y_1 (reEdit_eq _) y_2 rfl y_3 (reEdit_eq _)).2 c_6).2.1, (by generalize (decide ((1 : Int) ≤ (countE y_1))) = b0; revert b0; decide), ((h y_1 (reEdit_eq _) y_2 rfl y_3 (reEdit_eq _)).2 c_6).2.2⟩⟩)
def Body17 (e : Edit)  : Prop := awp cfg (know (know17)) (drawOk cfg (know (know17))) Try.f17.ntmps lv17 (cd Try.f17 []) (entry (args17.can (e, ())) []) (EndsQ cfg Try.f17.ntmps Try.f17.results.toList (res17 (e, ())) [])
theorem make17 (c43 : Contract Try.prog cfg 43 spec43) (c54 : Contract Try.prog cfg 54 spec54) (c55 : Contract Try.prog cfg 55 spec55) (c58 : Contract Try.prog cfg 58 spec58) (hb : ∀ (e : Edit) (_ : Unit), pre17 (e, ()) → Body17 e) : Contract Try.prog cfg 17 spec17 :=
  contract_flat (l := [(43, spec43), (54, spec54), (55, spec55), (58, spec58)]) cfgOk rfl (⟨c43, c54, c55, c58, trivial⟩) lv17 Try.func17 rfl rfl 1 (fun _ => rfl) (by decide) (fun ⟨e, _⟩ => hb e ())

/-! cento/centolaw20.EditEqual -/
end Go.AM.Ytlahjnelghpmeaa

namespace Go.AM.Ytlahjnelghpmeaa
open Go.AM Go.Proofs


theorem rng_nilT : rng Tree.nil := by
  simp only [Tree.nil, rng, rngK]
  exact ⟨by decide, by simp, trivial⟩


/-- But for numbers. -/
structure RngW (w : Wst) : Prop where
  out : ∀ o ∈ w.out, rngK o.l ∧ rngE o.e
  gone : rngK w.gone
  brought : rngK w.brought

theorem rngE_none : rngE Edit.nil := by
  simp only [Edit.nil, rngE, rngKs, rngOs]
  exact ⟨by unfold isI; omega, rng_nilT, rng_nilT, by simp, by unfold isI; omega, trivial, trivial⟩


end Go.AM.Ytlahjnelghpmeaa

namespace Go.AM.Ytlahjnelghpmeaa
open Go.AM Go.Proofs

theorem c86 : Contract Try.prog cfg 86 spec86 := by
  refine make86 ?_
  intro n _ _
  refine vc86 _ _ ?_
  simp only [res86]
  (repeat' (first | exact trivial | exact rfl | refine And.intro ?_ ?_))

theorem c55 : Contract Try.prog cfg 55 spec55 := by
  refine make55 c86 c56 c58 ?_
  intro _ _
  refine vc55 _ ?_
  rintro y1 hy1 y2 hy2 y3 hy3 y4 hy4 y5 hy5
  have hl : lenAW (Edit.ops y5) 0 = 3 ∧ lenBW (Edit.ops y5) 0 = 4 := by
    rw [hy5, hy1, hy2, hy3]
    exact ⟨by rfl, by rfl⟩
  have hr : rightE y5 64 = true := by
    rw [hy5, hy1, hy2, hy3, hy4]
    rfl
  have hm : massE y5 ≤ 900000 := by
    rw [hy5, hy1, hy2, hy3, hy4]
    decide
  have hn : rngE y5 := by
    have h4 : rngE y4 := by rw [hy4]; exact rngE_none
    have ht : ∀ x : Int, 0 ≤ x ∧ x < 18446744073709551616 → rng (Tree.mk 10 [x] []) := by
      intro x hx
      simp only [rng, rngK]
      exact ⟨by decide, by simpa using hx, trivial⟩
    rw [hy5, hy1, hy2, hy3]
    simp only [rngE, rngKs, rngOs, rngOp, rngK]
    have z := rng_nilT
    refine ⟨by unfold isI; omega, z, z, by simp, by unfold isI; omega, trivial, ⟨by unfold isI; omega, by unfold isI; omega, trivial, h4⟩, ⟨by unfold isI; omega, by unfold isI; omega, ⟨ht 5 (by omega), trivial⟩, h4⟩, ⟨by unfold isI; omega, by unfold isI; omega, ⟨ht 6 (by omega), ht 7 (by omega), trivial⟩, h4⟩, trivial⟩
  rw [hl.1, hl.2, hr]
  exact ⟨trivial, trivial, trivial, by simp only [pre56]; omega, by simp only [pre58]; exact ⟨hm, hn⟩, ends_bool rfl rfl⟩

mutual
theorem rightE_mono : ∀ (e : Edit) (d f : Int), 0 ≤ d → d ≤ f → rightE e d = true → rightE e f = true
  | .mk k o n w ks l os, d, f, h0, hf, h => by
    have h1 := rightKs_mono ks
    have h2 := rightOs_mono l os
    rw [rightE] at h
    rw [rightE]
    split at h
    · cases h
    · rename_i a
      rw [if_neg (by omega)]
      split at h
      · cases h
      · rename_i b
        rw [if_neg b]
        split at h
        · rename_i c
          rw [if_pos c]
          exact h
        · rename_i c
          rw [if_neg c]
          simp only [Bool.and_eq_true] at h ⊢
          obtain ⟨⟨⟨⟨x1, x2⟩, x3⟩, x4⟩, x5⟩ := h
          exact ⟨⟨⟨⟨x1, h1 _ _ _ (by omega) (by omega) x2⟩, x3⟩, h2 _ _ (by omega) (by omega) x4⟩, x5⟩
theorem rightKs_mono : ∀ (ks : List (KidOf Edit)) (last d f : Int), 0 ≤ d → d ≤ f → rightKs last ks d = true → rightKs last ks f = true
  | [], _, _, _, _, _, _ => rfl
  | k :: r, last, d, f, h0, hf, h => by
    simp only [rightKs, Bool.and_eq_true] at h ⊢
    exact ⟨rightKid_mono k last d f h0 hf h.1, rightKs_mono r k.at_ d f h0 hf h.2⟩
theorem rightKid_mono : ∀ (k : KidOf Edit) (last d f : Int), 0 ≤ d → d ≤ f → rightKid last k d = true → rightKid last k f = true
  | ⟨a, e⟩, last, d, f, h0, hf, h => by
    simp only [rightKid, Bool.and_eq_true] at h ⊢
    exact ⟨h.1, rightE_mono e d f h0 hf h.2⟩
theorem rightOs_mono (list : Int) : ∀ (os : List (OpOf Edit)) (d f : Int), 0 ≤ d → d ≤ f → rightOs list os d = true → rightOs list os f = true
  | [], _, _, _, _, _ => rfl
  | o :: r, d, f, h0, hf, h => by
    simp only [rightOs, Bool.and_eq_true] at h ⊢
    exact ⟨rightOp_mono list o d f h0 hf h.1, rightOs_mono list r d f h0 hf h.2⟩
theorem rightOp_mono (list : Int) : ∀ (o : OpOf Edit) (d f : Int), 0 ≤ d → d ≤ f → rightOp list o d = true → rightOp list o f = true
  | ⟨k, n, l, e⟩, d, f, h0, hf, h => by
    have ih := rightE_mono e d f h0 hf
    rw [rightOp] at h ⊢
    split at h
    · rename_i a; rw [if_pos a]; exact h
    · rename_i a
      rw [if_neg a]
      split at h
      · cases h
      · rename_i b
        rw [if_neg b]
        split at h
        · rename_i c; rw [if_pos c]; exact h
        · rename_i c
          rw [if_neg c]
          simp only [Bool.and_eq_true] at h ⊢
          exact ⟨⟨h.1.1, ih h.1.2⟩, h.2⟩
end

/-- The edit in a step of what is right. -/
theorem op_part {list d : Int} {o : Op} (hd : 0 ≤ d) (hf : d ≤ 64) (h : rightOp list o d = true) : rightE o.e 64 = true ∧ ((o.kind = 3 ∧ o.e.kind ≠ 0) ∨ (o.kind ≠ 3 ∧ o.e.kind = 0)) := by
  rw [rightOp_at] at h
  split at h
  · simp only [Bool.and_eq_true] at h
    exact ⟨sameE_right h.2 64 (by decide), Or.inr ⟨by omega, (sameE_eq h.2).1⟩⟩
  · split at h
    · cases h
    · split at h
      · simp only [Bool.and_eq_true] at h
        exact ⟨sameE_right h.2 64 (by decide), Or.inr ⟨by omega, (sameE_eq h.2).1⟩⟩
      · simp only [Bool.and_eq_true, decide_eq_true_eq] at h
        exact ⟨rightE_mono _ _ _ hd hf h.1.2, Or.inl ⟨by omega, h.1.1.2.1⟩⟩

theorem c17 : Contract Try.prog cfg 17 spec17 := by
  refine make17 c43 c54 c55 c58 ?_
  intro e _ hp
  simp only [pre17] at hp
  obtain ⟨ik, ro, rn, rw', il, rk, ros⟩ := rngE_at hp.2
  refine vc17 _ _ ?_
  rintro y1 hy1
  subst hy1
  by_cases hg : ¬ 0 ≤ leftE y1 80 3000
  · refine ⟨by simp only [pre54]; exact hp.1, fun h => ?_, fun h => ⟨trivial, ends_bool rfl rfl⟩, fun h => ?_⟩
    · simp [hg] at h
    · simp [hg] at h
  have hg := Classical.not_not.1 hg
  have hm := few_massE hg
  have hme := len_massE y1
  have hkl := massKs_len y1.kids
  have hol := massOs_len y1.ops
  refine ⟨by simp only [pre54]; exact hp.1, fun h => by simp only [pre58]; exact ⟨by omega, hp.2⟩, fun h => ⟨trivial, ends_bool rfl rfl⟩, fun h => ?_⟩
  have hr : rightE y1 64 = true := by simpa [hg] using h
  have hin := rightE_in hr
  refine loop_rule (ι := Int) (fun i => head17_0 y1 i) (fun i => 0 ≤ i ∧ i ≤ y1.kids.length) (fun i => ((y1.kids.length : Int) - i).toNat) 0 rfl ⟨by omega, by omega⟩ ?_
  rintro i ⟨g1, g2⟩
  refine vc17_l0 _ _ _ _ ?_
  rintro z1 hz1 z2 hz2
  (simp only [bif_tl, bif_fr, bif_tlf, bif_frf, Bool.not_eq_true', Bool.not_eq_false', decide_eq_true_eq, decide_eq_false_iff_not, beq_iff_eq, beq_eq_false_iff_ne, bne_iff_ne, ne_eq, bne_eq_false_iff_eq, Bool.or_eq_true, Bool.and_eq_true, Bool.or_eq_false_iff, Bool.and_eq_false_imp])
  refine ⟨fun hi => ?_, fun hi => ?_⟩
  · have hmem := mem_getD (l := y1.kids) (i := i.toNat) (by omega) (KidOf.mk 0 Edit.nil)
    have hmk := massKs_mem hmem
    have hrk := rngKs_mem rk hmem
    have hk := hin.1 _ hmem
    rw [← hz1] at hmk hrk hk
    rw [← hz2] at hmk hrk hk
    have hk64 := rightE_mono _ _ 64 (by decide) (by decide) hk.1
    rw [← hz2, hk64]
    refine ⟨⟨g1, hi⟩, by simp only [pre58]; exact ⟨by omega, hrk.2⟩, fun _ => ⟨g1, hi⟩, fun hc => ?_, fun hc => ⟨by unfold InR; omega, i + 1, rfl, ⟨by omega, by omega⟩, by omega⟩⟩
    rcases hc with hc | hc
    · cases hc
    · exact absurd hc hk.2
  · refine loop_rule (ι := Int) (fun i => head17_1 y1 i) (fun i => 0 ≤ i ∧ i ≤ y1.ops.length) (fun i => ((y1.ops.length : Int) - i).toNat) 0 rfl ⟨by omega, by omega⟩ ?_
    rintro j ⟨f1, f2⟩
    refine vc17_l1 _ _ _ _ ?_
    rintro u1 hu1 u2 hu2 u3 hu3
    subst hu1
    (simp only [bif_tl, bif_fr, bif_tlf, bif_frf, Bool.not_eq_true', Bool.not_eq_false', decide_eq_true_eq, decide_eq_false_iff_not, beq_iff_eq, beq_eq_false_iff_ne, bne_iff_ne, ne_eq, bne_eq_false_iff_eq, Bool.or_eq_true, Bool.and_eq_true, Bool.or_eq_false_iff, Bool.and_eq_false_imp])
    refine ⟨fun hj => ?_, fun hj => ⟨by simp only [pre43]; omega, fun _ => trivial, ends_bool rfl ?_⟩⟩
    · have hmem := mem_getD (l := u1.ops) (i := j.toNat) (by omega) Op.nil
      have hmk := massOs_mem hmem
      have hrk := (rngOp_e (rngOs_mem ros hmem)).2.2.2
      have hk := op_part (by decide) (by decide) (hin.2 _ hmem)
      rw [← hu2] at hmk hrk hk
      rw [massOp_e] at hmk
      rw [← hu3] at hmk hrk hk
      rw [← hu3, hk.1]
      refine ⟨⟨f1, hj⟩, by simp only [pre58]; exact ⟨by omega, hrk⟩, fun _ => ⟨f1, hj⟩, fun _ => ⟨f1, hj⟩, fun hc => ?_, fun hc => ⟨by unfold InR; omega, j + 1, rfl, ⟨by omega, by omega⟩, by omega⟩⟩
      exfalso
      rcases hc with hc | hc
      · cases hc
      · rcases hk.2 with h | h
        · rw [h.1] at hc
          simp at hc
          exact h.2 hc
        · rw [h.2] at hc
          simp at hc
          exact h.1 hc
    · have := (countE_le u1).1
      simp [this]

end Go.AM.Ytlahjnelghpmeaa
