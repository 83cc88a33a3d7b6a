/- Chapter 24: the bodies: units, pairs. -/
import Derived.Test.YtlahjnelghpmeaaB24
set_option linter.unusedSimpArgs false
set_option linter.unusedVariables false
namespace Go.AM.Ytlahjnelghpmeaa
open Go.AM Go.Proofs

theorem unitsOp_len {o : Op} (h : opOk o) (i a : Int) : ((unitsOp i a o).length : Int) = opLen o := by
  have hl := opLen_eq o
  unfold opOk at h
  simp only [unitsOp, List.length_append, List.length_map]
  rcases h with ⟨h1, h2, h3, h4⟩ | ⟨h1, h2, h3, h4⟩ | ⟨h1, h2, h3⟩
  · rw [if_pos h1, if_neg (by omega), h2]
    rw [if_neg (by omega), h2] at hl
    simp at *
    omega
  · rw [if_neg (by omega), if_neg (by omega)]
    rw [if_neg (by omega)] at hl
    simp
    omega
  · rw [if_neg (by omega), if_pos h1, h3]
    rw [if_pos h1] at hl
    simp
    omega

theorem unitsF_len (a : Int) : ∀ (l : List Op) (i : Int), (∀ o ∈ l, opOk o) → ((unitsF i a l).length : Int) = kidsOs l
  | [], _, _ => rfl
  | o :: r, i, h => by
    have h1 := unitsOp_len (h o (List.mem_cons_self ..)) i a
    have h2 := unitsF_len a r (i + 1) (fun x hx => h x (List.mem_cons_of_mem _ hx))
    simp only [unitsF, List.length_append, kidsOs]
    omega

theorem c26 : Contract Try.prog cfg 26 spec26 := by
  refine make26 ?_
  intro l al _ hp
  simp only [pre26] at hp
  obtain ⟨⟨hok, hma⟩, hk⟩ := hp
  have hln := massOs_len l
  have htot := unitsF_len al l 0 hok
  refine vc26 _ _ _ ?_
  refine loop_rule (ι := Int × List AUnit) (fun s => head26_0 l al s.1 s.2) (fun s => 0 ≤ s.1 ∧ s.1 ≤ l.length ∧ s.2 ++ unitsF s.1 al (l.drop s.1.toNat) = unitsF 0 al l) (fun s => ((l.length : Int) - s.1).toNat) (0, []) rfl ⟨by simp, by simp, by simp⟩ ?_
  rintro ⟨i, out⟩ ⟨h1, h2, h3⟩
  dsimp only at h1 h2 h3
  refine vc26_l0 _ _ _ _ _ _ ?_
  (simp only [bif_tl, bif_fr, bif_tlf, bif_frf, Bool.not_eq_true', Bool.not_eq_false', decide_eq_true_eq, decide_eq_false_iff_not, beq_iff_eq, beq_eq_false_iff_ne, bne_iff_ne, ne_eq, bne_eq_false_iff_eq, Bool.or_eq_true, Bool.and_eq_true, Bool.or_eq_false_iff, Bool.and_eq_false_imp])
  refine ⟨fun hi => ⟨⟨h1, hi⟩, ?_⟩, fun hi => ?_⟩
  · have hmem := mem_getD (l := l) (i := i.toNat) (by omega) Op.nil
    have ho := hok _ hmem
    have hmo := massOs_mem hmem
    rw [dropI h1 hi Op.nil] at h3
    simp only [unitsF] at h3
    have hlen := congrArg List.length h3
    have hul := unitsOp_len ho i al
    generalize hy : l.getD i.toNat Op.nil = o at *
    have hon := opOk_n ho
    have hol := op_len (o := o) (by omega)
    have hole := opLen_le ho (by omega)
    simp only [List.length_append] at hlen
    let u : AUnit := ⟨i, 0, Tree.nil, Edit.nil, false⟩
    let A : List AUnit := if o.kind = 0 then List.replicate o.n.toNat u else []
    have hA : A.length ≤ 2000000 := by simp only [A]; split <;> simp; omega
    refine loop_rule (ι := Int) (fun k => head26_1 l al i k (out ++ List.replicate k.toNat u)) (fun k => 0 ≤ k ∧ k ≤ (if o.kind = 0 then o.n else 0)) (fun k => (o.n - k).toNat) 0 (by simp) ⟨by omega, by split <;> omega⟩ ?_
    rintro k ⟨k1, k2⟩
    refine vc26_l1 _ _ _ _ _ _ _ _ ?_
    simp only [hy]
    (simp only [bif_tl, bif_fr, bif_tlf, bif_frf, Bool.not_eq_true', Bool.not_eq_false', decide_eq_true_eq, decide_eq_false_iff_not, beq_iff_eq, beq_eq_false_iff_ne, bne_iff_ne, ne_eq, bne_eq_false_iff_eq, Bool.or_eq_true, Bool.and_eq_true, Bool.or_eq_false_iff, Bool.and_eq_false_imp])
    refine ⟨fun hc => ?_, fun hc => ?_⟩
    · rw [if_pos hc.2] at k2
      refine ⟨by simp; omega, by unfold InR; omega, k + 1, ?_, ⟨by omega, by rw [if_pos hc.2]; omega⟩, by omega⟩
      rw [show (k + 1).toNat = k.toNat + 1 by omega, List.replicate_succ', ← List.append_assoc]
      rfl
    · have hkA : List.replicate k.toNat u = A := by
        simp only [A]
        by_cases hk0 : o.kind = 0
        · rw [if_pos hk0] at k2 ⊢
          rw [show k = o.n by omega]
        · rw [if_neg hk0] at k2 ⊢
          rw [show k = 0 by omega]
          rfl
      rw [hkA]
      refine loop_rule (ι := Int) (fun j => head26_2 l al i j (out ++ (A ++ (o.l.take j.toNat).map (fun t => (⟨i, o.kind, t, Edit.nil, decide (o.kind = al)⟩ : AUnit))))) (fun j => 0 ≤ j ∧ j ≤ o.l.length) (fun j => ((o.l.length : Int) - j).toNat) 0 (by simp) ⟨by omega, by omega⟩ ?_
      rintro j ⟨j1, j2⟩
      refine vc26_l2 _ _ _ _ _ _ _ _ ?_
      rw [hy]
      rintro y1 hy1 y2 hy2 y3 hy3 y4 hy4 y5 hy5 y6 hy6
      obtain rfl := hy1.symm
      obtain rfl := hy4.symm
      have hjl : (o.l.take j.toNat).length ≤ 1000000 := by simp; omega
      (simp only [bif_tl, bif_fr, bif_tlf, bif_frf, Bool.not_eq_true', Bool.not_eq_false', decide_eq_true_eq, decide_eq_false_iff_not, beq_iff_eq, beq_eq_false_iff_ne, bne_iff_ne, ne_eq, bne_eq_false_iff_eq, Bool.or_eq_true, Bool.and_eq_true, Bool.or_eq_false_iff, Bool.and_eq_false_imp])
      refine ⟨fun hc => ⟨⟨j1, hc⟩, by simp; omega, by unfold InR; omega, j + 1, ?_, ⟨by omega, by omega⟩, by omega⟩, fun hc => ?_⟩
      · rw [show (j + 1).toNat = j.toNat + 1 by omega, List.take_succ_eq_append_getElem (by omega), List.map_append, ← List.append_assoc, ← List.append_assoc, ← List.append_assoc]
        congr 2
        have e : o.l.getD j.toNat Tree.nil = o.l[j.toNat] := by rw [List.getD_eq_getElem?_getD, List.getElem?_eq_getElem (by omega)]; rfl
        rw [hy6, hy5, e]
        have e2 : (o.kind == al) = decide (o.kind = al) := by rw [Bool.eq_iff_iff]; (simp only [bif_tl, bif_fr, bif_tlf, bif_frf, Bool.not_eq_true', Bool.not_eq_false', decide_eq_true_eq, decide_eq_false_iff_not, beq_iff_eq, beq_eq_false_iff_ne, bne_iff_ne, ne_eq, bne_eq_false_iff_eq, Bool.or_eq_true, Bool.and_eq_true, Bool.or_eq_false_iff, Bool.and_eq_false_imp])
        rw [hy2, e2]
        rfl
      · rw [List.take_of_length_le (by omega)]
        have e4 : ∀ B : List AUnit, out ++ (A ++ (o.l.map (fun t => (⟨i, o.kind, t, Edit.nil, decide (o.kind = al)⟩ : AUnit)))) ++ B = out ++ (A ++ (o.l.map (fun t => (⟨i, o.kind, t, Edit.nil, decide (o.kind = al)⟩ : AUnit)) ++ B)) := by intro B; simp
        refine ⟨fun hq => ⟨by simp; omega, by unfold InR; omega, (i + 1, out ++ unitsOp i al o), ?_, ⟨by dsimp only; omega, by dsimp only; omega, ?_⟩, by dsimp only; omega⟩, fun hq => ⟨by unfold InR; omega, (i + 1, out ++ unitsOp i al o), ?_, ⟨by dsimp only; omega, by dsimp only; omega, ?_⟩, by dsimp only; omega⟩⟩
        · rw [e4]
          simp only [unitsOp]
          rw [if_pos hq, hy3]
          rfl
        · rw [List.append_assoc]; exact h3
        · simp only [unitsOp]
          rw [if_neg hq]
          simp only [List.append_nil]
          rfl
        · rw [List.append_assoc]; exact h3
  · rw [List.drop_of_length_le (by omega)] at h3
    simp only [unitsF, List.append_nil] at h3
    rw [h3]
    (repeat' (first | exact trivial | exact rfl | refine And.intro ?_ ?_))

theorem getD_drop' {α : Type} (l : List α) (i : Nat) (d : α) : (l.drop i).getD 0 d = l.getD i d := by
  simp [List.getD_eq_getElem?_getD]

theorem alo_drop {l : List AUnit} {i : Int} (h0 : 0 ≤ i) : (alo (l.drop i.toNat) = true) ↔ (i < l.length ∧ (l.getD i.toNat AUnit.nil).alone = true) := by
  unfold alo
  rw [decide_eq_true_eq, getD_drop', List.length_drop]
  constructor
  · rintro ⟨a, b⟩; exact ⟨by omega, b⟩
  · rintro ⟨a, b⟩; exact ⟨by omega, b⟩

theorem drop_drop1 {α : Type} (l : List α) {i : Int} (h0 : 0 ≤ i) : (l.drop i.toNat).drop 1 = l.drop (i + 1).toNat := by
  rw [List.drop_drop]; congr 1; omega

theorem c25 : Contract Try.prog cfg 25 spec25 := by
  refine make25 ?_
  intro p q _ hp
  simp only [pre25] at hp
  refine vc25 _ _ _ ?_
  refine loop_rule (ι := Int × Int × List APair) (fun s => head25_0 p q s.1 s.2.1 s.2.2) (fun s => (0 ≤ s.1 ∧ s.1 ≤ p.length) ∧ (0 ≤ s.2.1 ∧ s.2.1 ≤ q.length) ∧ s.2.2.length ≤ s.1 + s.2.1 ∧ pairsG (p.drop s.1.toNat) (q.drop s.2.1.toNat) s.2.2 = pairsG p q []) (fun s => ((p.length : Int) - s.1).toNat + ((q.length : Int) - s.2.1).toNat) (0, 0, []) rfl ⟨by simp, by simp, by simp, by simp⟩ ?_
  rintro ⟨i, j, out⟩ ⟨⟨h1, h2⟩, ⟨h3, h4⟩, h5, h6⟩
  dsimp only at h1 h2 h3 h4 h5 h6
  refine vc25_l0 _ _ _ _ _ _ _ ?_
  rintro y1 hy1 y2 hy2 y3 hy3 y4 hy4 y5 hy5 y6 hy6 y7 hy7
  obtain rfl := hy4.symm
  obtain rfl := hy5.symm
  have e1 : y6 = ⟨1, y1, AUnit.nil⟩ := by rw [hy6, hy3]; rfl
  have e2 : y7 = ⟨2, AUnit.nil, y2⟩ := by rw [hy7, hy3]; rfl
  rw [pairsG, getD_drop', getD_drop', ← hy1, ← hy2, drop_drop1 _ h1, drop_drop1 _ h3] at h6
  have ap := alo_drop (l := p) h1
  have aq := alo_drop (l := q) h3
  rw [← hy1] at ap
  rw [← hy2] at aq
  (simp only [bif_tl, bif_fr, bif_tlf, bif_frf, Bool.not_eq_true', Bool.not_eq_false', decide_eq_true_eq, decide_eq_false_iff_not, beq_iff_eq, beq_eq_false_iff_ne, bne_iff_ne, ne_eq, bne_eq_false_iff_eq, Bool.or_eq_true, Bool.and_eq_true, Bool.or_eq_false_iff, Bool.and_eq_false_imp])
  refine ⟨fun hc => ⟨fun _ => ⟨h1, by omega⟩, fun ha => ⟨⟨h1, ha.1⟩, by simp; omega, by unfold InR; omega, (i + 1, j, out ++ [y6]), rfl, ⟨⟨by omega, by dsimp only; omega⟩, ⟨h3, h4⟩, by simp; omega, ?_⟩, by dsimp only; omega⟩, fun ha => ⟨fun _ => ⟨h3, by omega⟩, fun hb => ⟨⟨h3, hb.1⟩, by simp; omega, by unfold InR; omega, (i, j + 1, out ++ [y7]), rfl, ⟨⟨h1, h2⟩, ⟨by dsimp only; omega, by dsimp only; omega⟩, by simp; omega, ?_⟩, by dsimp only; omega⟩, fun hb => ⟨fun he => ?_, fun he => ?_⟩⟩⟩, fun hc => ?_⟩
  · rw [dif_pos (ap.2 ha), ← e1] at h6; exact h6
  · rw [dif_neg (fun h => ?_), dif_pos (aq.2 hb), ← e2] at h6
    · exact h6
    · have := ap.1 h; simp_all
  · rw [dif_neg (fun h => ?_), dif_neg (fun h => ?_), dif_pos (by simp only [List.length_drop]; omega), if_neg] at h6
    · simp only [res25, ← h6]
      (repeat' (first | exact trivial | exact rfl | refine And.intro ?_ ?_))
    · simp only [List.length_drop, decide_eq_decide]; omega
    · have := aq.1 h; simp_all
    · have := ap.1 h; simp_all
  · rw [dif_neg (fun h => ?_), dif_neg (fun h => ?_), dif_neg (by simp only [List.length_drop]; omega)] at h6
    · refine ⟨⟨h1, by omega⟩, ⟨h3, by omega⟩, by simp; omega, by unfold InR; omega, by unfold InR; omega, (i + 1, j + 1, out ++ [⟨0, y1, y2⟩]), rfl, ⟨⟨by dsimp only; omega, by dsimp only; omega⟩, ⟨by dsimp only; omega, by dsimp only; omega⟩, by simp; omega, h6⟩, by dsimp only; omega⟩
    · have := aq.1 h; simp_all
    · have := ap.1 h; simp_all
  · rw [dif_neg (fun h => ?_), dif_neg (fun h => ?_), dif_pos (by simp only [List.length_drop]; omega), if_pos] at h6
    · simp only [res25, ← h6]
      (repeat' (first | exact trivial | exact rfl | refine And.intro ?_ ?_))
    · simp only [List.length_drop, decide_eq_decide]; omega
    · have := aq.1 h; omega
    · have := ap.1 h; omega

theorem c103 : Contract Try.prog cfg 103 spec103 := by
  refine make103 c26 ?_
  intro o a _ hp
  simp only [pre103] at hp
  refine vc103 _ _ _ ?_
  (simp only [Tree.eta, Edit.eta, Tree.kind_mk, Tree.words_mk, Tree.kids_mk])
  have hl := opLen_le hp.1 hp.2
  refine ⟨⟨⟨?_, ?_⟩, ?_⟩, ?_⟩
  · intro x hx
    rcases List.mem_cons.1 hx with rfl | hx
    · exact hp.1
    · cases hx
  · simp only [massOs]; exact hp.2
  · simp only [kidsOs]
    have e : opLen (⟨o.kind, o.n, o.l, o.e⟩ : Op) = opLen o := rfl
    omega
  · (repeat' (first | exact trivial | exact rfl | refine And.intro ?_ ?_))

theorem c104 : Contract Try.prog cfg 104 spec104 := by
  refine make104 ?_
  intro u _ hp
  refine vc104 _ _ ?_
  (simp only [bif_tl, bif_fr, bif_tlf, bif_frf, Bool.not_eq_true', Bool.not_eq_false', decide_eq_true_eq, decide_eq_false_iff_not, beq_iff_eq, beq_eq_false_iff_ne, bne_iff_ne, ne_eq, bne_eq_false_iff_eq, Bool.or_eq_true, Bool.and_eq_true, Bool.or_eq_false_iff, Bool.and_eq_false_imp])
  refine ⟨fun h => ?_, fun h => ⟨fun h2 => ?_, fun h2 => ?_⟩⟩
  · have e : opU u = ⟨0, 1, [], Edit.nil⟩ := by rw [opU, if_pos h]
    simp only [res104, e]
    (repeat' (first | exact trivial | exact rfl | refine And.intro ?_ ?_))
  · have e : opU u = ⟨3, 0, [], u.e⟩ := by rw [opU, if_neg h, if_pos h2]
    simp only [res104, e]
    (repeat' (first | exact trivial | exact rfl | refine And.intro ?_ ?_))
  · have e : opU u = ⟨u.kind, 0, [u.t], Edit.nil⟩ := by rw [opU, if_neg h, if_neg h2]
    (simp only [Tree.eta, Edit.eta, Tree.kind_mk, Tree.words_mk, Tree.kids_mk])
    simp only [res104, e]
    (repeat' (first | exact trivial | exact rfl | refine And.intro ?_ ?_))

theorem eqX_no {α : Type} {a b : α} (h : ¬ a = b) : eqX a b = false := by rw [← Bool.not_eq_true, eqX_iff]; exact h

/-! ## the same, as they stand -/
theorem list_eq_getD {α : Type} (d : α) {a b : List α} (hl : a.length = b.length) (h : ∀ i : Nat, i < a.length → a.getD i d = b.getD i d) : a = b := by
  apply List.ext_getElem hl
  intro i h1 h2
  have := h i h1
  simpa [List.getD_eq_getElem?_getD, List.getElem?_eq_getElem h1, List.getElem?_eq_getElem h2] using this

theorem c77 : Contract Try.prog cfg 77 spec77 := by
  refine make77 c33 ?_
  intro a b _ hp
  simp only [pre77] at hp
  refine vc77 _ _ _ ?_
  (simp only [bif_tl, bif_fr, bif_tlf, bif_frf, Bool.not_eq_true', Bool.not_eq_false', decide_eq_true_eq, decide_eq_false_iff_not, beq_iff_eq, beq_eq_false_iff_ne, bne_iff_ne, ne_eq, bne_eq_false_iff_eq, Bool.or_eq_true, Bool.and_eq_true, Bool.or_eq_false_iff, Bool.and_eq_false_imp])
  refine ⟨fun hc => ends_bool rfl (eqX_no (a := a) (b := b) (fun h => hc (by rw [h]))).symm, fun hc => ?_⟩
  have hl : a.length = b.length := by omega
  have hla := massK_len a
  refine loop_rule (ι := Int) (fun i => head77_0 a b i) (fun i => 0 ≤ i ∧ i ≤ a.length ∧ ∀ j : Nat, (j : Int) < i → a.getD j Tree.nil = b.getD j Tree.nil) (fun i => ((a.length : Int) - i).toNat) 0 rfl ⟨by omega, by omega, by intro j hj; omega⟩ ?_
  rintro i ⟨h1, h2, h3⟩
  refine vc77_l0 _ _ _ _ _ ?_
  (simp only [bif_tl, bif_fr, bif_tlf, bif_frf, Bool.not_eq_true', Bool.not_eq_false', decide_eq_true_eq, decide_eq_false_iff_not, beq_iff_eq, beq_eq_false_iff_ne, bne_iff_ne, ne_eq, bne_eq_false_iff_eq, Bool.or_eq_true, Bool.and_eq_true, Bool.or_eq_false_iff, Bool.and_eq_false_imp])
  (simp only [Tree.eta, Edit.eta, Tree.kind_mk, Tree.words_mk, Tree.kids_mk])
  refine ⟨fun hi => ⟨⟨h1, hi⟩, ⟨h1, by omega⟩, ?_, fun hq => ?_, fun hq => ⟨by unfold InR; omega, i + 1, rfl, ⟨by omega, by omega, ?_⟩, by omega⟩⟩, fun hi => ?_⟩
  · have := massK_mem (mem_getD (l := a) (i := i.toNat) (by omega) Tree.nil)
    simp only [pre33]; omega
  · refine ends_bool rfl (eqX_no (a := a) (b := b) (fun h => ?_)).symm
    rw [h, sameT_false] at hq
    exact hq rfl
  · intro j hj
    by_cases hj2 : (j : Int) < i
    · exact h3 j hj2
    · rw [sameT_true, show i.toNat = j by omega] at hq
      exact hq
  · refine ends_bool rfl (eqX_iff (a := a) (b := b).2 (list_eq_getD Tree.nil hl (fun j hj => h3 j (by omega)))).symm

theorem edit_ext {a b : Edit} (h1 : a.kind = b.kind) (h2 : a.old = b.old) (h3 : a.new = b.new) (h4 : a.words = b.words) (h5 : a.kids = b.kids) (h6 : a.list = b.list) (h7 : a.ops = b.ops) : a = b := by
  cases a; cases b; simp_all

theorem kid_ext {a b : Kid} (h1 : a.at_ = b.at_) (h2 : a.e = b.e) : a = b := by cases a; cases b; simp_all
theorem op_ext {a b : Op} (h1 : a.kind = b.kind) (h2 : a.n = b.n) (h3 : a.l = b.l) (h4 : a.e = b.e) : a = b := by cases a; cases b; simp_all
theorem wedit_ext {a b : WEdit} (h1 : a.at_ = b.at_) (h2 : a.mask = b.mask) (h3 : a.old = b.old) (h4 : a.new = b.new) : a = b := by cases a; cases b; simp_all

theorem c39 : Contract Try.prog cfg 39 spec39 := by
  refine make39 c33 c77 ?_
  intro N a b _ hp hN
  simp only [pre39, mu39] at hp hN
  have hme := len_massE a
  have hkl := massKs_len a.kids
  have hol := massOs_len a.ops
  have neq : ∀ {P : Prop}, (a = b → P) → ¬ P → eqX a b = false := fun h1 h2 => eqX_no (fun h => h2 (h1 h))
  refine vc39 N a b _ ?_
  rintro y1 rfl y2 rfl y3 rfl y4 rfl
  (simp only [bif_tl, bif_fr, bif_tlf, bif_frf, Bool.not_eq_true', Bool.not_eq_false', decide_eq_true_eq, decide_eq_false_iff_not, beq_iff_eq, beq_eq_false_iff_ne, bne_iff_ne, ne_eq, bne_eq_false_iff_eq, Bool.or_eq_true, Bool.and_eq_true, Bool.or_eq_false_iff, Bool.and_eq_false_imp])
  refine ⟨fun _ => ?_, fun _ => ?_, fun hc => ?_, fun hc => ?_⟩
  · simp only [pre33]; omega
  · simp only [pre33]; omega
  · refine ends_bool rfl (eqX_no (a := a) (b := b) (fun h => ?_)).symm
    rw [h] at hc
    simp only [sameT_false] at hc
    simp at hc
  · simp only [sameT_true, Classical.not_not] at hc
    obtain ⟨⟨⟨⟨⟨⟨h1, h2⟩, h3⟩, h4⟩, h5⟩, h6⟩, h7⟩ := hc
    refine loop_rule (ι := Int) (fun i => head39_0 a b i) (fun i => 0 ≤ i ∧ i ≤ a.words.length ∧ ∀ j : Nat, (j : Int) < i → a.words.getD j (WEdit.mk 0 0 0 0) = b.words.getD j (WEdit.mk 0 0 0 0)) (fun i => ((a.words.length : Int) - i).toNat) 0 rfl ⟨by omega, by omega, by intro j hj; omega⟩ ?_
    rintro i ⟨g1, g2, g3⟩
    refine vc39_l0 _ _ _ _ _ _ ?_
    (simp only [bif_tl, bif_fr, bif_tlf, bif_frf, Bool.not_eq_true', Bool.not_eq_false', decide_eq_true_eq, decide_eq_false_iff_not, beq_iff_eq, beq_eq_false_iff_ne, bne_iff_ne, ne_eq, bne_eq_false_iff_eq, Bool.or_eq_true, Bool.and_eq_true, Bool.or_eq_false_iff, Bool.and_eq_false_imp])
    simp only [and_true]
    refine ⟨fun hi => ⟨⟨g1, hi⟩, ⟨g1, by omega⟩, fun hq => ?_, fun hq => ⟨by unfold InR; omega, i + 1, rfl, ⟨by omega, by omega, ?_⟩, by omega⟩⟩, fun hi => ?_⟩
    · refine ends_bool rfl (eqX_no (a := a) (b := b) (fun h => ?_)).symm
      rw [h] at hq
      simp at hq
    · intro j hj
      by_cases hj2 : (j : Int) < i
      · exact g3 j hj2
      · rw [show i.toNat = j by omega] at hq
        exact wedit_ext hq.1 hq.2.1 hq.2.2.1 hq.2.2.2
    · have hw : a.words = b.words := list_eq_getD (WEdit.mk 0 0 0 0) (by omega) (fun j hj => g3 j (by omega))
      refine loop_rule (ι := Int) (fun i => head39_1 a b i) (fun i => 0 ≤ i ∧ i ≤ a.kids.length ∧ ∀ j : Nat, (j : Int) < i → a.kids.getD j (KidOf.mk 0 Edit.nil) = b.kids.getD j (KidOf.mk 0 Edit.nil)) (fun i => ((a.kids.length : Int) - i).toNat) 0 rfl ⟨by omega, by omega, by intro j hj; omega⟩ ?_
      rintro i ⟨g1, g2, g3⟩
      refine vc39_l1 _ _ _ _ _ _ ?_
      rintro y1 hy1 y2 hy2 y3 hy3 y4 hy4
      (simp only [bif_tl, bif_fr, bif_tlf, bif_frf, Bool.not_eq_true', Bool.not_eq_false', decide_eq_true_eq, decide_eq_false_iff_not, beq_iff_eq, beq_eq_false_iff_ne, bne_iff_ne, ne_eq, bne_eq_false_iff_eq, Bool.or_eq_true, Bool.and_eq_true, Bool.or_eq_false_iff, Bool.and_eq_false_imp])
      refine ⟨fun hi => ⟨⟨g1, hi⟩, ⟨g1, by omega⟩, fun _ => ⟨g1, hi⟩, fun _ => ⟨g1, by omega⟩, fun _ => ?_, fun _ => ?_, fun hq => ?_, fun hq => ⟨by unfold InR; omega, i + 1, rfl, ⟨by omega, by omega, ?_⟩, by omega⟩⟩, fun hi => ?_⟩
      · have := massKs_mem (mem_getD (l := a.kids) (i := i.toNat) (by omega) (KidOf.mk 0 Edit.nil))
        rw [← hy1, ← hy3] at this
        simp only [pre39]; omega
      · have := massKs_mem (mem_getD (l := a.kids) (i := i.toNat) (by omega) (KidOf.mk 0 Edit.nil))
        rw [← hy1, ← hy3] at this
        simp only [mu39]; omega
      · refine ends_bool rfl (eqX_no (a := a) (b := b) (fun h => ?_)).symm
        rw [h] at hy1
        rw [hy3, hy4, hy1, hy2, eqX_self] at hq
        simp at hq
      · intro j hj
        by_cases hj2 : (j : Int) < i
        · exact g3 j hj2
        · rw [eqX_iff, hy3, hy4, hy1, hy2, show i.toNat = j by omega] at hq
          exact kid_ext (by simpa using hq.1) hq.2
      · have hk : a.kids = b.kids := list_eq_getD (KidOf.mk 0 Edit.nil) (by omega) (fun j hj => g3 j (by omega))
        refine loop_rule (ι := Int) (fun i => head39_2 a b i) (fun i => 0 ≤ i ∧ i ≤ a.ops.length ∧ ∀ j : Nat, (j : Int) < i → a.ops.getD j Op.nil = b.ops.getD j Op.nil) (fun i => ((a.ops.length : Int) - i).toNat) 0 rfl ⟨by omega, by omega, by intro j hj; omega⟩ ?_
        rintro i ⟨g1, g2, g3⟩
        refine vc39_l2 _ _ _ _ _ _ ?_
        rintro y1 hy1 y2 hy2 y3 hy3 y4 hy4
        (simp only [bif_tl, bif_fr, bif_tlf, bif_frf, Bool.not_eq_true', Bool.not_eq_false', decide_eq_true_eq, decide_eq_false_iff_not, beq_iff_eq, beq_eq_false_iff_ne, bne_iff_ne, ne_eq, bne_eq_false_iff_eq, Bool.or_eq_true, Bool.and_eq_true, Bool.or_eq_false_iff, Bool.and_eq_false_imp])
        refine ⟨fun hi => ⟨⟨g1, hi⟩, ⟨g1, by omega⟩, fun _ => ?_, fun _ => ?_, fun _ => ?_, fun hq => ?_, fun hq => ⟨by unfold InR; omega, i + 1, rfl, ⟨by omega, by omega, ?_⟩, by omega⟩⟩, fun hi => ?_⟩
        · have := massOs_mem (mem_getD (l := a.ops) (i := i.toNat) (by omega) Op.nil)
          rw [← hy1, massOp_e] at this
          simp only [pre77]; omega
        · have := massOs_mem (mem_getD (l := a.ops) (i := i.toNat) (by omega) Op.nil)
          rw [← hy1, massOp_e, ← hy3] at this
          simp only [pre39]; omega
        · have := massOs_mem (mem_getD (l := a.ops) (i := i.toNat) (by omega) Op.nil)
          rw [← hy1, massOp_e, ← hy3] at this
          simp only [mu39]; omega
        · refine ends_bool rfl (eqX_no (a := a) (b := b) (fun h => ?_)).symm
          rw [h] at hy1
          rw [hy3, hy4, hy1, hy2, eqX_self, eqX_self] at hq
          simp at hq
        · intro j hj
          by_cases hj2 : (j : Int) < i
          · exact g3 j hj2
          · rw [eqX_iff, eqX_iff, hy3, hy4, hy1, hy2, show i.toNat = j by omega] at hq
            obtain ⟨⟨⟨q1, q2⟩, q3⟩, q4⟩ := hq
            exact op_ext (by simpa using q1) (by simpa using q2) q3 q4
        · have ho : a.ops = b.ops := list_eq_getD Op.nil (by omega) (fun j hj => g3 j (by omega))
          exact ends_bool rfl (eqX_iff (a := a) (b := b).2 (edit_ext h1 h3 h4 hw hk h2 ho)).symm

end Go.AM.Ytlahjnelghpmeaa
