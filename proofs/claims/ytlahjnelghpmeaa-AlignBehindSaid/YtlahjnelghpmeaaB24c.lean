/- Chapter 24: the bodies: pieces against pairs. -/
import Derived.Test.YtlahjnelghpmeaaB24b
set_option linter.unusedSimpArgs false
set_option linter.unusedVariables false
namespace Go.AM.Ytlahjnelghpmeaa
open Go.AM Go.Proofs

theorem unitsF_one (a : Int) (o : Op) : unitsF 0 a [o] = unitsOp 0 a o := by simp [unitsF]

theorem opU_mass {i a : Int} {o : Op} {u : AUnit} (h : u ∈ unitsOp i a o) : massOp (opU u) ≤ massOp o + 3 := by
  have hn : massE Edit.nil = 3 := massE_nil
  have h0 : massK [] = 0 := by simp [massK]
  rw [massOp_e, massOp_e]
  simp only [unitsOp, List.mem_append, List.mem_map] at h
  have hu : (u.t = Tree.nil ∧ u.e = Edit.nil) ∨ (u.t ∈ o.l ∧ u.e = Edit.nil) ∨ (u.t = Tree.nil ∧ u.e = o.e) := by
    rcases h with h | ⟨t, h1, rfl⟩ | h
    · split at h
      · rw [List.eq_of_mem_replicate h]; exact Or.inl ⟨rfl, rfl⟩
      · cases h
    · exact Or.inr (Or.inl ⟨h1, rfl⟩)
    · split at h
      · rw [List.mem_singleton.1 h]; exact Or.inr (Or.inr ⟨rfl, rfl⟩)
      · cases h
  have hp := massE_pos o.e
  have hT : mass Tree.nil = 1 := by simp [Tree.nil, mass, massK]
  have hk : ∀ t : Tree, massK [t] = mass t := by intro t; simp [massK]
  unfold opU
  split
  · dsimp only; omega
  · split
    · dsimp only
      rcases hu with ⟨h1, h2⟩ | ⟨h1, h2⟩ | ⟨h1, h2⟩ <;> rw [h2] <;> omega
    · dsimp only
      rw [hk]
      rcases hu with ⟨h1, h2⟩ | ⟨h1, h2⟩ | ⟨h1, h2⟩
      · rw [h1]; omega
      · have := massK_mem h1; omega
      · rw [h1]; omega

theorem c67 : Contract Try.prog cfg 67 spec67 := by
  refine make67 c39 c103 c104 ?_
  intro o al l at_ sec _ hp
  simp only [pre67] at hp
  obtain ⟨⟨ho, hm⟩, hl, ha, hlen, heq⟩ := hp
  have hul : ((unitsF 0 al [o]).length : Int) = opLen o := by rw [unitsF_one]; exact unitsOp_len ho 0 al
  have hol := opLen_le ho (by omega)
  refine vc67 _ _ _ _ _ _ ?_
  (simp only [Tree.eta, Edit.eta, Tree.kind_mk, Tree.words_mk, Tree.kids_mk])
  refine ⟨⟨ho, by show massOp o ≤ 1000000; omega⟩, ?_⟩
  refine loop_rule (ι := Int) (fun i => head67_0 o al l at_ sec i) (fun i => 0 ≤ i ∧ i ≤ opLen o) (fun i => (opLen o - i).toNat) 0 rfl ⟨by omega, by omega⟩ ?_
  rintro i ⟨h1, h2⟩
  refine vc67_l0 _ _ _ _ _ _ _ _ ?_
  rintro y1 hy1 y2 hy2 y3 hy3 y4 hy4 y5 hy5 y6 hy6 y7 hy7 y8 hy8 y9 hy9 y10 hy10 y11 hy11 y12 hy12
  rw [hy1] at hy5 ⊢
  rw [hul]
  (simp only [bif_tl, bif_fr, bif_tlf, bif_frf, Bool.not_eq_true', Bool.not_eq_false', decide_eq_true_eq, decide_eq_false_iff_not, beq_iff_eq, beq_eq_false_iff_ne, bne_iff_ne, ne_eq, bne_eq_false_iff_eq, Bool.or_eq_true, Bool.and_eq_true, Bool.or_eq_false_iff, Bool.and_eq_false_imp])
  refine ⟨fun hc => ⟨by unfold InR; omega, ⟨by omega, by omega⟩, ?_⟩, fun hc => by (repeat' (first | exact trivial | exact rfl | refine And.intro ?_ ?_))⟩
  have hmem := mem_getD (l := unitsF 0 al [o]) (i := i.toNat) (by omega) AUnit.nil
  rw [← hy5] at hmem
  rw [unitsF_one] at hmem
  have hmass := opU_mass hmem
  have hq := congrArg (fun l => l[i.toNat]?) heq
  simp only [List.getElem?_map] at hq
  rw [List.getElem?_take_of_lt (by omega), List.getElem?_drop, List.getElem?_eq_getElem (by omega), List.getElem?_eq_getElem (by omega)] at hq
  simp only [Option.map_some, Option.some.injEq] at hq
  have q1 : (unitsF 0 al [o])[i.toNat]'(by omega) = y5 := by rw [hy5, List.getD_eq_getElem?_getD, List.getElem?_eq_getElem (by omega)]; rfl
  have q2 : l[at_.toNat + i.toNat]'(by omega) = y2 := by rw [hy2, List.getD_eq_getElem?_getD, show (at_ + i).toNat = at_.toNat + i.toNat by omega, List.getElem?_eq_getElem (by omega)]; rfl
  rw [q1, q2, ← hy6, ← hy9] at hq
  rw [← hy6, ← hy9] at hmass
  have m12 : massE y12 ≤ 1000000 := by
    rw [hy12]
    simp only [massE, massKs, massOs, mass, massK, List.length_cons, List.length_nil]
    omega
  refine ⟨fun hs => ⟨by unfold InR; omega, ⟨by omega, by omega⟩, ⟨by omega, by omega⟩, trivial, trivial, m12, fun hx => ?_, fun hx => ⟨by unfold InR; omega, i + 1, rfl, ⟨by omega, by omega⟩, by omega⟩⟩, fun hs => ⟨⟨by omega, by omega⟩, trivial, trivial, m12, fun hx => ?_, fun hx => ⟨by unfold InR; omega, i + 1, rfl, ⟨by omega, by omega⟩, by omega⟩⟩⟩
  · rw [hs] at hq
    simp only [if_true] at hq
    rw [hy12, hy11, hq, hy8, hy4, eqX_self] at hx
    cases hx
  · rw [hs] at hq
    rw [if_neg Bool.false_ne_true] at hq
    rw [hy12, hy10, hq, hy7, hy3, eqX_self] at hx
    cases hx

theorem alikeP_cons {alone : Int} {x : Piece} {r : List Piece} {m : List APair} : alikeP alone (x :: r) m = ∃ m1 m2, m = m1 ++ m2 ∧ m1 ≠ [] ∧ ((x.of = 0 ∨ x.of = 1 ∨ x.of = 2) ∧ (x.of = 2 → x.p = Op.nil) ∧ (∀ y ∈ m1, y.of = x.of) ∧ (x.of ≠ 2 → opOk x.p ∧ massOp x.p ≤ 900000 ∧ opLen x.p = m1.length ∧ sameU x.p alone (m1.map APair.p))
      ∧ (x.of ≠ 1 → opOk x.q ∧ massOp x.q ≤ 900000 ∧ opLen x.q = m1.length ∧ sameU x.q 2 (m1.map APair.q))) ∧ alikeP alone r m2 := rfl

theorem loop27 (l : List Piece) (al : Int) (m : List APair) (at_ i n k : Int) (N1 N0 : LSt U → Prop) (Q : AExit → LSt U → Prop) (x : Piece) (m1 m2 : List APair) (hx : l.getD i.toNat (Piece.mk 0 Op.nil Op.nil) = x) (hi : 0 ≤ i ∧ i < l.length) (hl : l.length ≤ 10000000) (hm : m.length ≤ 10000000)
    (ha : 0 ≤ at_ ∧ at_ ≤ m.length) (e : m.drop at_.toNat = m1 ++ m2) (hn : n = m1.length) (hk : 0 ≤ k ∧ k ≤ n)
    (hof : ∀ y ∈ m1, y.of = x.of) (h1 : x.of ≠ 2 → opOk x.p ∧ massOp x.p ≤ 900000 ∧ opLen x.p = m1.length ∧ sameU x.p al (m1.map APair.p)) (h2 : x.of ≠ 1 → opOk x.q ∧ massOp x.q ≤ 900000 ∧ opLen x.q = m1.length ∧ sameU x.q 2 (m1.map APair.q))
    (h : k < n → N1 (head27_1 l al m at_ i n (k + 1))) (h' : ¬k < n → N0 (head27_0 l al m (at_ + n) (i + 1))) : W27_l1 l al m at_ i n k N1 N0 Q := by
  refine vc27_l1 _ _ _ _ _ _ _ _ _ _ ?_
  rintro y1 hy1 y2 hy2 y3 hy3 y4 hy4
  have hlen := congrArg List.length e
  simp only [List.length_drop, List.length_append] at hlen
  rw [hx] at hy1
  rw [hy1] at hy3 hy4
  rw [hy1, hy3, hy4]
  have htk : (m.drop at_.toNat).take n.toNat = m1 := by rw [e, hn]; simp
  (simp only [bif_tl, bif_fr, bif_tlf, bif_frf, Bool.not_eq_true', Bool.not_eq_false', decide_eq_true_eq, decide_eq_false_iff_not, beq_iff_eq, beq_eq_false_iff_ne, bne_iff_ne, ne_eq, bne_eq_false_iff_eq, Bool.or_eq_true, Bool.and_eq_true, Bool.or_eq_false_iff, Bool.and_eq_false_imp])
  refine ⟨fun hc => ⟨by unfold InR; omega, ⟨by omega, by omega⟩, fun hq => ?_, fun _ => ⟨by unfold InR; omega, h hc⟩⟩, fun hc => ⟨fun hq => ?_, fun hq => ?_, fun hq => ?_, fun hq => ⟨by unfold InR; omega, by unfold InR; omega, h' hc⟩⟩⟩
  · exfalso
    apply hq
    apply hof
    have g : m1[k.toNat]'(by omega) = y2 := by
      have e1 : (m.drop at_.toNat)[k.toNat]? = (m1 ++ m2)[k.toNat]? := by rw [e]
      rw [List.getElem?_drop, List.getElem?_append_left (by omega), List.getElem?_eq_getElem (by omega), List.getElem?_eq_getElem (by omega)] at e1
      rw [hy2, List.getD_eq_getElem?_getD, show (at_ + k).toNat = at_.toNat + k.toNat by omega, List.getElem?_eq_getElem (by omega)]
      exact (Option.some.inj e1).symm
    rw [← g]
    exact List.getElem_mem _
  · obtain ⟨a, b, c, d⟩ := h1 hq
    refine ⟨⟨a, b⟩, hm, ha.1, by dsimp only; omega, ?_⟩
    dsimp only
    rw [c, ← hn, htk]
    unfold sameU at d
    rw [d, List.map_map]
    rfl
  · obtain ⟨a, b, c, d⟩ := h2 (by simpa using hq.2)
    refine ⟨⟨a, b⟩, hm, ha.1, by dsimp only; omega, ?_⟩
    dsimp only
    rw [c, ← hn, htk]
    unfold sameU at d
    rw [d, List.map_map]
    rfl
  · simp at hq

theorem c27 : Contract Try.prog cfg 27 spec27 := by
  refine make27 c66 c67 ?_
  intro l al m _ hp
  simp only [pre27] at hp
  obtain ⟨hal, hm, hl⟩ := hp
  refine vc27 _ _ _ _ ?_
  refine loop_rule (ι := Int × Int) (fun s => head27_0 l al m s.1 s.2) (fun s => (0 ≤ s.1 ∧ s.1 ≤ m.length) ∧ (0 ≤ s.2 ∧ s.2 ≤ l.length) ∧ alikeP al (l.drop s.2.toNat) (m.drop s.1.toNat)) (fun s => ((l.length : Int) - s.2).toNat) (0, 0) rfl ⟨by simp, by simp, by simpa using hal⟩ ?_
  rintro ⟨at_, i⟩ ⟨⟨h1, h2⟩, ⟨h3, h4⟩, h5⟩
  dsimp only at h1 h2 h3 h4 h5
  refine vc27_l0 _ _ _ _ _ _ _ ?_
  rintro y1 hy1 y2 hy2 y3 hy3
  (simp only [bif_tl, bif_fr, bif_tlf, bif_frf, Bool.not_eq_true', Bool.not_eq_false', decide_eq_true_eq, decide_eq_false_iff_not, beq_iff_eq, beq_eq_false_iff_ne, bne_iff_ne, ne_eq, bne_eq_false_iff_eq, Bool.or_eq_true, Bool.and_eq_true, Bool.or_eq_false_iff, Bool.and_eq_false_imp])
  refine ⟨fun hi => ⟨⟨h3, hi⟩, ?_⟩, fun hi => ?_⟩
  · rw [dropI h3 hi (Piece.mk 0 Op.nil Op.nil), alikeP_cons, ← hy1] at h5
    obtain ⟨m1, m2, e, hne, ⟨hof, hnil, hall, k1, k2⟩, hr⟩ := h5
    have hlen := congrArg List.length e
    simp only [List.length_drop, List.length_append] at hlen
    have hpos := List.length_pos_iff.2 hne
    rw [← hy2] at k1 hnil
    rw [← hy3] at k2
    have p66 : ∀ o : Op, opOk o → massOp o ≤ 900000 → massOp o ≤ 1000000 ∧ 0 ≤ o.n ∧ o.n ≤ 1048576 := fun o a b => ⟨by omega, opOk_n a⟩
    have pnil : massOp Op.nil = 3 := by rw [massOp_e]; simp [Op.nil, massE_nil, massK]
    have nextI : ∀ j : Int × Int, j = (at_ + m1.length, i + 1) → ((0 ≤ j.1 ∧ j.1 ≤ m.length) ∧ (0 ≤ j.2 ∧ j.2 ≤ l.length) ∧ alikeP al (l.drop j.2.toNat) (m.drop j.1.toNat)) := by
      rintro _ rfl
      refine ⟨⟨by dsimp only; omega, by dsimp only; omega⟩, ⟨by dsimp only; omega, by dsimp only; omega⟩, ?_⟩
      dsimp only
      rw [show (at_ + (m1.length : Int)).toNat = at_.toNat + m1.length by omega, ← List.drop_drop, e]
      simpa using hr
    refine ⟨?_, fun hc => ⟨?_, fun _ => by unfold InR; omega, fun _ => ?_, fun hq => ?_, fun _ => ?_⟩, fun hc => ⟨fun _ => by unfold InR; omega, fun hq => ?_, fun hq => ?_, fun _ => ?_⟩⟩
    · by_cases h2 : y1.of = 2
      · rw [hnil h2]; exact ⟨by rw [pnil]; omega, by decide, by decide⟩
      · exact p66 _ (k1 h2).1 (k1 h2).2.1
    · exact p66 _ (k2 (by omega)).1 (k2 (by omega)).2.1
    · exact p66 _ (k2 (by omega)).1 (k2 (by omega)).2.1
    · have := (k2 (by omega)).2.2.1
      omega
    · have q3 := (k2 (by omega)).2.2.1
      rw [q3]
      refine loop_rule (ι := Int) (fun k => head27_1 l al m at_ i m1.length k) (fun k => 0 ≤ k ∧ k ≤ m1.length) (fun k => ((m1.length : Int) - k).toNat) 0 rfl ⟨by omega, by omega⟩ ?_
      rintro k ⟨g1, g2⟩
      refine loop27 l al m at_ i m1.length k _ _ _ y1 m1 m2 hy1.symm ⟨h3, hi⟩ hl hm ⟨h1, h2⟩ e rfl ⟨g1, g2⟩ hall (by rw [← hy2]; exact k1) (by rw [← hy3]; exact k2) (fun hk => ⟨k + 1, rfl, ⟨by omega, by omega⟩, by omega⟩) (fun hk => ⟨(at_ + m1.length, i + 1), rfl, nextI _ rfl, by dsimp only; omega⟩)
    · exact p66 _ (k2 (by omega)).1 (k2 (by omega)).2.1
    · have a1 := (k1 hc).2.2.1
      have a2 := fun h => (k2 h).2.2.1
      omega
    · have q3 := (k1 hc).2.2.1
      rw [q3]
      refine loop_rule (ι := Int) (fun k => head27_1 l al m at_ i m1.length k) (fun k => 0 ≤ k ∧ k ≤ m1.length) (fun k => ((m1.length : Int) - k).toNat) 0 rfl ⟨by omega, by omega⟩ ?_
      rintro k ⟨g1, g2⟩
      refine loop27 l al m at_ i m1.length k _ _ _ y1 m1 m2 hy1.symm ⟨h3, hi⟩ hl hm ⟨h1, h2⟩ e rfl ⟨g1, g2⟩ hall (by rw [← hy2]; exact k1) (by rw [← hy3]; exact k2) (fun hk => ⟨k + 1, rfl, ⟨by omega, by omega⟩, by omega⟩) (fun hk => ⟨(at_ + m1.length, i + 1), rfl, nextI _ rfl, by dsimp only; omega⟩)
  · rw [List.drop_of_length_le (by omega)] at h5
    have h6 : m.drop at_.toNat = [] := h5
    have := congrArg List.length h6
    simp at this
    refine ends_bool rfl ?_
    rw [beq_iff_eq]; omega

end Go.AM.Ytlahjnelghpmeaa
