/- Chapter 20: the bodies: lengths, and what is few. -/
import Derived.Test.YtlahjnelghpmeaaE20
set_option linter.unusedSimpArgs false
set_option linter.unusedVariables false
namespace Go.AM.Ytlahjnelghpmeaa
open Go.AM Go.Proofs

theorem len_mass (t : Tree) : t.words.length + t.kids.length < mass t := by
  obtain ⟨k, w, ks⟩ := t
  have := massK_len ks
  simp only [mass, Tree.words_mk, Tree.kids_mk]
  omega

theorem len_massE (e : Edit) : mass e.old + mass e.new + e.words.length + e.ops.length + massKs e.kids + massOs e.ops < massE e := by
  obtain ⟨k, o, n, w, ks, l, os⟩ := e
  simp only [massE, Edit.old_mk, Edit.new_mk, Edit.words_mk, Edit.ops_mk, Edit.kids_mk]
  omega

theorem c88 : Contract Try.prog cfg 88 spec88 := by
  refine make88 ?_
  intro t _ hp
  simp only [pre88] at hp
  have := len_mass t
  refine vc88 t _ ?_
  refine ⟨fun _ => by unfold InR; omega, ends_bool rfl ?_⟩
  rw [Bool.eq_iff_iff]
  simp only [noneT]
  (simp only [bif_tl, bif_fr, bif_tlf, bif_frf, Bool.not_eq_true', Bool.not_eq_false', decide_eq_true_eq, decide_eq_false_iff_not, beq_iff_eq, beq_eq_false_iff_ne, bne_iff_ne, ne_eq, bne_eq_false_iff_eq, Bool.or_eq_true, Bool.and_eq_true, Bool.or_eq_false_iff, Bool.and_eq_false_imp])
  omega

theorem c89 : Contract Try.prog cfg 89 spec89 := by
  refine make89 c116 ?_
  intro w m _ hp
  refine vc89 _ _ _ ?_
  refine ⟨⟨hp.1, by dsimp only; omega, hp.2⟩, ends_bool rfl ?_⟩
  rfl

theorem c123 : Contract Try.prog cfg 123 spec123 := by
  refine make123 c88 ?_
  intro e _ hp
  simp only [pre123] at hp
  have h1 := len_massE e
  have h2 := massKs_len e.kids
  refine vc123 e _ ?_
  (simp only [Tree.eta, Edit.eta, Tree.kind_mk, Tree.words_mk, Tree.kids_mk])
  refine ⟨fun _ => by simp only [pre88]; omega, fun _ => by simp only [pre88]; omega, fun _ => by unfold InR; omega, fun _ => by unfold InR; omega, ends_bool rfl ?_⟩
  rw [Bool.eq_iff_iff]
  simp only [sameE]
  (simp only [bif_tl, bif_fr, bif_tlf, bif_frf, Bool.not_eq_true', Bool.not_eq_false', decide_eq_true_eq, decide_eq_false_iff_not, beq_iff_eq, beq_eq_false_iff_ne, bne_iff_ne, ne_eq, bne_eq_false_iff_eq, Bool.or_eq_true, Bool.and_eq_true, Bool.or_eq_false_iff, Bool.and_eq_false_imp])
  constructor
  · rintro ⟨⟨⟨⟨h3, h4⟩, h5⟩, h6⟩, h7⟩; exact ⟨⟨⟨h3, h4⟩, h5⟩, by omega⟩
  · rintro ⟨⟨⟨h3, h4⟩, h5⟩, h6⟩; exact ⟨⟨⟨⟨h3, h4⟩, h5⟩, by omega⟩, by omega⟩

theorem loop57 (e : Edit) (x4 x5 i : Int) (N0 : LSt U → Prop) (Q : AExit → LSt U → Prop) (h1 : 0 ≤ x4 ∧ x4 ≤ 1048576) (h2 : 0 ≤ x5 ∧ x5 ≤ 1048576) (hi : 0 ≤ i) (hlen : e.ops.length ≤ 1000000)
    (ho : ∀ o ∈ e.ops, (0 ≤ o.n ∧ o.n ≤ 1048576) ∧ o.l.length ≤ 1000000)
    (h : i < e.ops.length → N0 (head57_0 e (min (if (e.ops.getD i.toNat Op.nil).kind = 2 then x4 else x4 + opLen (e.ops.getD i.toNat Op.nil)) 1048576) (min (if (e.ops.getD i.toNat Op.nil).kind = 1 then x5 else x5 + opLen (e.ops.getD i.toNat Op.nil)) 1048576) (i + 1)))
    (h' : ¬i < e.ops.length → Q .ret (⟨[(2, .c (.int .i64 x4)), (3, .c (.int .i64 x5))], []⟩ : LSt U)) : W57_l0 e x4 x5 i N0 Q := by
  refine vc57_l0 _ _ _ _ _ _ ?_
  (simp only [bif_tl, bif_fr, bif_tlf, bif_frf, Bool.not_eq_true', Bool.not_eq_false', decide_eq_true_eq, decide_eq_false_iff_not, beq_iff_eq, beq_eq_false_iff_ne, bne_iff_ne, ne_eq, bne_eq_false_iff_eq, Bool.or_eq_true, Bool.and_eq_true, Bool.or_eq_false_iff, Bool.and_eq_false_imp])
  refine ⟨fun hc => ?_, h'⟩
  have hn := h hc
  have hm := ho _ (mem_getD (l := e.ops) (i := i.toNat) (by omega) Op.nil)
  have k1 : ∀ k, k = opLen (e.ops.getD i.toNat Op.nil) → W57_c1 e x4 x5 i k N0 Q := by
    intro k hk
    have hkr : 0 ≤ k ∧ k ≤ 3000000 := by
      rw [hk]; unfold opLen; split <;> omega
    have k2 : ∀ y, y = (if (e.ops.getD i.toNat Op.nil).kind = 2 then x4 else x4 + k) → W57_c2 e x5 i k y N0 Q := by
      intro y hy
      have hyr : 0 ≤ y ∧ y ≤ 5000000 := by rw [hy]; split <;> omega
      have k3 : ∀ z, z = (if (e.ops.getD i.toNat Op.nil).kind = 1 then x5 else x5 + k) → W57_c3 e i k y z N0 Q := by
        intro z hz
        have hzr : 0 ≤ z ∧ z ≤ 5000000 := by rw [hz]; split <;> omega
        have k4 : ∀ u, u = min y 1048576 → W57_c4 e i y z u N0 Q := by
          intro u hu
          refine vc57_c4 _ _ _ _ _ _ _ ?_
          (simp only [bif_tl, bif_fr, bif_tlf, bif_frf, Bool.not_eq_true', Bool.not_eq_false', decide_eq_true_eq, decide_eq_false_iff_not, beq_iff_eq, beq_eq_false_iff_ne, bne_iff_ne, ne_eq, bne_eq_false_iff_eq, Bool.or_eq_true, Bool.and_eq_true, Bool.or_eq_false_iff, Bool.and_eq_false_imp])
          rw [← hk, ← hy, ← hz, ← hu] at hn
          refine ⟨fun hq => ⟨by unfold InR; omega, ?_⟩, fun hq => ⟨by unfold InR; omega, ?_⟩⟩
          · rw [show min z 1048576 = 1048576 by omega] at hn; exact hn
          · rw [show min z 1048576 = z by omega] at hn; exact hn
        refine vc57_c3 _ _ _ _ _ _ _ ?_
        (simp only [bif_tl, bif_fr, bif_tlf, bif_frf, Bool.not_eq_true', Bool.not_eq_false', decide_eq_true_eq, decide_eq_false_iff_not, beq_iff_eq, beq_eq_false_iff_ne, bne_iff_ne, ne_eq, bne_eq_false_iff_eq, Bool.or_eq_true, Bool.and_eq_true, Bool.or_eq_false_iff, Bool.and_eq_false_imp])
        exact ⟨fun hq => k4 _ (by omega), fun hq => k4 _ (by omega)⟩
      refine vc57_c2 _ _ _ _ _ _ _ ?_
      (simp only [bif_tl, bif_fr, bif_tlf, bif_frf, Bool.not_eq_true', Bool.not_eq_false', decide_eq_true_eq, decide_eq_false_iff_not, beq_iff_eq, beq_eq_false_iff_ne, bne_iff_ne, ne_eq, bne_eq_false_iff_eq, Bool.or_eq_true, Bool.and_eq_true, Bool.or_eq_false_iff, Bool.and_eq_false_imp])
      exact ⟨fun hq => ⟨by unfold InR; omega, k3 _ (by rw [if_neg hq])⟩, fun hq => k3 _ (by rw [if_pos hq])⟩
    refine vc57_c1 _ _ _ _ _ _ _ ?_
    (simp only [bif_tl, bif_fr, bif_tlf, bif_frf, Bool.not_eq_true', Bool.not_eq_false', decide_eq_true_eq, decide_eq_false_iff_not, beq_iff_eq, beq_eq_false_iff_ne, bne_iff_ne, ne_eq, bne_eq_false_iff_eq, Bool.or_eq_true, Bool.and_eq_true, Bool.or_eq_false_iff, Bool.and_eq_false_imp])
    exact ⟨fun hq => ⟨by unfold InR; omega, k2 _ (by rw [if_neg hq])⟩, fun hq => k2 _ (by rw [if_pos hq])⟩
  exact ⟨⟨hi, hc⟩, by unfold InR; omega, fun hq => k1 _ (by unfold opLen; rw [if_pos hq]), fun hq => k1 _ (by unfold opLen; rw [if_neg hq])⟩

theorem c57 : Contract Try.prog cfg 57 spec57 := by
  refine make57 ?_
  intro e _ hp
  simp only [pre57] at hp
  have h1 := len_massE e
  refine vc57 e _ ?_
  refine loop_rule (ι := Int × Int × Int) (fun p => head57_0 e p.1 p.2.1 p.2.2) (fun p => 0 ≤ p.2.2 ∧ p.2.2 ≤ e.ops.length ∧ (0 ≤ p.1 ∧ p.1 ≤ 1048576) ∧ (0 ≤ p.2.1 ∧ p.2.1 ≤ 1048576) ∧ lenA (e.ops.drop p.2.2.toNat) p.1 = lenA e.ops 0 ∧ lenB (e.ops.drop p.2.2.toNat) p.2.1 = lenB e.ops 0) (fun p => ((e.ops.length : Int) - p.2.2).toNat) (0, 0, 0) rfl ⟨by dsimp only; omega, by dsimp only; omega, by dsimp only; omega, by dsimp only; omega, by simp, by simp⟩ ?_
  rintro ⟨x4, x5, i⟩ ⟨h2, h3, h4, h5, h6, h7⟩
  dsimp only at *
  have ho : ∀ o ∈ e.ops, (0 ≤ o.n ∧ o.n ≤ 1048576) ∧ o.l.length ≤ 1000000 := by
    intro o hm
    refine ⟨hp.2 o hm, ?_⟩
    have a1 := massOs_mem hm
    have a2 := massK_len o.l
    rw [massOp_e] at a1
    omega
  refine loop57 e x4 x5 i _ _ h4 h5 h2 (by omega) ho (fun hc => ⟨(_, _, i + 1), rfl, ⟨by dsimp only; omega, by dsimp only; omega, ?_, ?_, ?_, ?_⟩, by dsimp only; omega⟩) (fun hc => ?_)
  · have hm := ho _ (mem_getD (l := e.ops) (i := i.toNat) (by omega) Op.nil)
    dsimp only
    unfold opLen
    split <;> (try split) <;> omega
  · have hm := ho _ (mem_getD (l := e.ops) (i := i.toNat) (by omega) Op.nil)
    dsimp only
    unfold opLen
    split <;> (try split) <;> omega
  · rw [dropI h2 hc Op.nil] at h6
    exact h6
  · rw [dropI h2 hc Op.nil] at h7
    exact h7
  · rw [List.drop_of_length_le (by omega)] at h6 h7
    simp only [lenA, lenB] at h6 h7
    simp only [res57, ← h6, ← h7]
    exact ⟨⟨rfl, ⟨⟨rfl, rfl⟩, trivial⟩, rfl, ⟨⟨rfl, rfl⟩, trivial⟩, trivial⟩, trivial⟩

theorem leftKs_neg {l : List Kid} {d n : Int} (h : n < 0) : leftKs l d n = n := by cases l <;> simp [leftKs, h]
theorem leftOs_neg {l : List Op} {d n : Int} (h : n < 0) : leftOs l d n = n := by cases l <;> simp [leftOs, h]
theorem shallowK_neg {l : List Tree} {d n : Int} (h : n < 0) : shallowK l d n = n := by cases l <;> simp [shallowK, h]

theorem smallE_at {e : Edit} (h : smallE e) : small e.old ∧ small e.new ∧ e.words.length ≤ 17592186044416 ∧ e.kids.length ≤ 17592186044416 ∧ e.ops.length ≤ 17592186044416 ∧ smallKs e.kids ∧ smallOs e.ops := by
  obtain ⟨k, o, n, w, ks, l, os⟩ := e; exact h

theorem leftE_at (e : Edit) (d n : Int) : leftE e d n = if d = 0 ∨ n - 1 - e.words.length - e.ops.length < 0 then -1 else leftOs e.ops (d - 1) (leftKs e.kids (d - 1) (sh1 e.new (shallow e.old 80 (n - 1 - e.words.length - e.ops.length)))) := by
  obtain ⟨k, o, nw, w, ks, l, os⟩ := e; rfl

theorem c85 : Contract Try.prog cfg 85 spec85 := by
  refine make85 c68 ?_
  rintro N e d n _ hp hN
  simp only [pre85, mu85] at hp hN
  obtain ⟨hs, hd0, hd1, hn0, hn1⟩ := hp
  obtain ⟨so, sn, lw, lk, lo, sk, sos⟩ := smallE_at hs
  have hme := len_massE e
  have hres := leftE_at e d n
  refine vc85 N e d n _ ?_
  (simp only [bif_tl, bif_fr, bif_tlf, bif_frf, Bool.not_eq_true', Bool.not_eq_false', decide_eq_true_eq, decide_eq_false_iff_not, beq_iff_eq, beq_eq_false_iff_ne, bne_iff_ne, ne_eq, bne_eq_false_iff_eq, Bool.or_eq_true, Bool.and_eq_true, Bool.or_eq_false_iff, Bool.and_eq_false_imp])
  (simp only [Tree.eta, Edit.eta, Tree.kind_mk, Tree.words_mk, Tree.kids_mk])
  refine ⟨by unfold InR; omega, by unfold InR; omega, by unfold InR; omega, fun hc => ends_int rfl (by rw [hres, if_pos hc]), fun hc => ?_⟩
  rw [if_neg (by omega)] at hres
  have r1 := shallow_range e.old 80 (n - 1 - e.words.length - e.ops.length)
  have p68 : ∀ t m, small t → -1 ≤ m → m ≤ 4611686018427387904 → pre68 (t, 80, m, ()) := fun t m h1 h2 h3 => ⟨h1, by dsimp only; omega, by dsimp only; omega, h2, h3⟩
  have k0 : ∀ x, x = sh1 e.new (shallow e.old 80 (n - 1 - e.words.length - e.ops.length)) → W85_c0 N e d n x (EndsQ cfg Try.f85.ntmps Try.f85.results.toList (res85 (e, d, n, ())) []) := by
    intro x hx
    have rx := sh1_range e.new _ r1.1
    rw [← hx] at rx hres
    refine vc85_c0 N e d n x _ ?_
    refine loop_rule (ι := Int × Int) (fun p => head85_1 e d n p.1 p.2) (fun p => 0 ≤ p.2 ∧ p.2 ≤ e.kids.length ∧ -1 ≤ p.1 ∧ p.1 ≤ 4611686018427387904 ∧ leftKs (e.kids.drop p.2.toNat) (d - 1) p.1 = leftKs e.kids (d - 1) x) (fun p => ((e.kids.length : Int) - p.2).toNat) (x, 0) rfl ⟨by dsimp only; omega, by dsimp only; omega, by dsimp only; omega, by dsimp only; omega, by simp⟩ ?_
    rintro ⟨y, i⟩ ⟨h1, h2, h3, h4, h5⟩
    dsimp only at *
    refine vc85_l1 N e d n y i _ _ ?_
    (simp only [bif_tl, bif_fr, bif_tlf, bif_frf, Bool.not_eq_true', Bool.not_eq_false', decide_eq_true_eq, decide_eq_false_iff_not, beq_iff_eq, beq_eq_false_iff_ne, bne_iff_ne, ne_eq, bne_eq_false_iff_eq, Bool.or_eq_true, Bool.and_eq_true, Bool.or_eq_false_iff, Bool.and_eq_false_imp])
    (simp only [Tree.eta, Edit.eta, Tree.kind_mk, Tree.words_mk, Tree.kids_mk])
    refine ⟨fun hi => ?_, fun hi => ?_⟩
    · have hmem := mem_getD (l := e.kids) (i := i.toNat) (by omega) (KidOf.mk 0 Edit.nil)
      have hsm := smallKs_mem sk hmem
      have hmm := massKs_mem hmem
      rw [dropI h1 hi.1 (KidOf.mk 0 Edit.nil)] at h5
      simp only [leftKs] at h5
      rw [if_neg (by omega), leftKid_e] at h5
      have rr := leftE_range (e.kids.getD i.toNat (KidOf.mk 0 Edit.nil)).e (d - 1) y
      exact ⟨⟨h1, hi.1⟩, by unfold InR; omega, ⟨hsm, by dsimp only; omega, by dsimp only; omega, h3, h4⟩, by simp only [mu85]; omega, by unfold InR; omega, (_, i + 1), rfl, ⟨by dsimp only; omega, by dsimp only; omega, by dsimp only; omega, by dsimp only; omega, h5⟩, by dsimp only; omega⟩
    · have hy : leftKs e.kids (d - 1) x = y := by
        rw [← h5]
        by_cases hlt : i < e.kids.length
        · exact leftKs_neg (by omega)
        · rw [List.drop_of_length_le (by omega)]; rfl
      rw [hy] at hres
      refine loop_rule (ι := Int × Int) (fun p => head85_2 e d n p.1 p.2) (fun p => 0 ≤ p.2 ∧ p.2 ≤ e.ops.length ∧ -1 ≤ p.1 ∧ p.1 ≤ 4611686018427387904 ∧ leftOs (e.ops.drop p.2.toNat) (d - 1) p.1 = leftOs e.ops (d - 1) y) (fun p => ((e.ops.length : Int) - p.2).toNat) (y, 0) rfl ⟨by dsimp only; omega, by dsimp only; omega, h3, h4, by simp⟩ ?_
      rintro ⟨z, j⟩ ⟨h6, h7, h8, h9, h10⟩
      dsimp only at *
      refine vc85_l2 N e d n z j _ _ ?_
      (simp only [bif_tl, bif_fr, bif_tlf, bif_frf, Bool.not_eq_true', Bool.not_eq_false', decide_eq_true_eq, decide_eq_false_iff_not, beq_iff_eq, beq_eq_false_iff_ne, bne_iff_ne, ne_eq, bne_eq_false_iff_eq, Bool.or_eq_true, Bool.and_eq_true, Bool.or_eq_false_iff, Bool.and_eq_false_imp])
      refine ⟨fun hj => ?_, fun hj => ?_⟩
      · have hmem := mem_getD (l := e.ops) (i := j.toNat) (by omega) Op.nil
        have hsm := smallOs_mem sos hmem
        have hmm := massOs_mem hmem
        rw [massOp_e] at hmm
        rw [dropI h6 hj.1 Op.nil] at h10
        simp only [leftOs] at h10
        rw [if_neg (by omega), leftOp_e] at h10
        refine loop_rule (ι := Int × Int) (fun p => head85_3 e d n j p.1 p.2) (fun p => 0 ≤ p.2 ∧ p.2 ≤ (e.ops.getD j.toNat Op.nil).l.length ∧ -1 ≤ p.1 ∧ p.1 ≤ 4611686018427387904 ∧ shallowK ((e.ops.getD j.toNat Op.nil).l.drop p.2.toNat) 80 p.1 = shallowK (e.ops.getD j.toNat Op.nil).l 80 z) (fun p => (((e.ops.getD j.toNat Op.nil).l.length : Int) - p.2).toNat) (z, 0) rfl ⟨by dsimp only; omega, by dsimp only; omega, h8, h9, by simp⟩ ?_
        rintro ⟨u, k⟩ ⟨g1, g2, g3, g4, g5⟩
        dsimp only at *
        refine vc85_l3 N e d n j u k _ _ _ ?_
        (simp only [bif_tl, bif_fr, bif_tlf, bif_frf, Bool.not_eq_true', Bool.not_eq_false', decide_eq_true_eq, decide_eq_false_iff_not, beq_iff_eq, beq_eq_false_iff_ne, bne_iff_ne, ne_eq, bne_eq_false_iff_eq, Bool.or_eq_true, Bool.and_eq_true, Bool.or_eq_false_iff, Bool.and_eq_false_imp])
        (simp only [Tree.eta, Edit.eta, Tree.kind_mk, Tree.words_mk, Tree.kids_mk])
        refine ⟨⟨h6, hj.1⟩, fun hk => ?_, fun hk => ?_⟩
        · have hmt := mem_getD (l := (e.ops.getD j.toNat Op.nil).l) (i := k.toNat) (by omega) Tree.nil
          rw [dropI g1 hk.1 Tree.nil] at g5
          simp only [shallowK] at g5
          rw [if_neg (by omega)] at g5
          have rr := shallow_range ((e.ops.getD j.toNat Op.nil).l.getD k.toNat Tree.nil) 80 u
          exact ⟨⟨h6, hj.1⟩, ⟨g1, hk.1⟩, p68 _ _ (smallK_mem hsm.2.1 hmt) g3 g4, by unfold InR; omega, (_, k + 1), rfl, ⟨by dsimp only; omega, by dsimp only; omega, by dsimp only; omega, by dsimp only; omega, g5⟩, by dsimp only; omega⟩
        · have hu : shallowK (e.ops.getD j.toNat Op.nil).l 80 z = u := by
            rw [← g5]
            by_cases hlt : k < (e.ops.getD j.toNat Op.nil).l.length
            · exact shallowK_neg (by omega)
            · rw [List.drop_of_length_le (by omega)]; rfl
          rw [hu] at h10
          have rr := leftE_range (e.ops.getD j.toNat Op.nil).e (d - 1) u
          refine ⟨fun hq => ⟨⟨h6, hj.1⟩, by unfold InR; omega, ⟨hsm.2.2, by dsimp only; omega, by dsimp only; omega, g3, g4⟩, by simp only [mu85]; omega, by unfold InR; omega, (_, j + 1), rfl, ⟨by dsimp only; omega, by dsimp only; omega, by dsimp only; omega, by dsimp only; omega, ?_⟩, by dsimp only; omega⟩,
            fun hq => ⟨by unfold InR; omega, (_, j + 1), rfl, ⟨by dsimp only; omega, by dsimp only; omega, by dsimp only; omega, by dsimp only; omega, ?_⟩, by dsimp only; omega⟩⟩
          · rw [if_neg (by omega)] at h10; exact h10
          · rw [if_pos (by omega)] at h10; exact h10
      · refine ends_int rfl ?_
        rw [hres, ← h10]
        by_cases hlt : j < e.ops.length
        · exact (leftOs_neg (by omega)).symm
        · rw [List.drop_of_length_le (by omega)]; rfl
  refine ⟨p68 _ _ so (by omega) (by omega), fun hq => ⟨p68 _ _ sn r1.1 (by omega), k0 _ ?_⟩, fun hq => k0 _ ?_⟩
  · unfold sh1; rw [if_neg (by omega)]
  · unfold sh1; rw [if_pos (by omega)]

theorem c54 : Contract Try.prog cfg 54 spec54 := by
  refine make54 c85 ?_
  intro e _ hp
  refine vc54 e _ ?_
  (simp only [Tree.eta, Edit.eta, Tree.kind_mk, Tree.words_mk, Tree.kids_mk])
  exact ⟨⟨hp, by dsimp only; omega, by dsimp only; omega, by dsimp only; omega, by dsimp only; omega⟩, ends_bool rfl rfl⟩

end Go.AM.Ytlahjnelghpmeaa
