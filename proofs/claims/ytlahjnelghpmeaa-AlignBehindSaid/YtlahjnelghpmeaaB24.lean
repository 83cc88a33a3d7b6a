/- Chapter 24: the bodies. -/
import Derived.Test.YtlahjnelghpmeaaG24
set_option linter.unusedSimpArgs false
set_option linter.unusedVariables false
namespace Go.AM.Ytlahjnelghpmeaa
open Go.AM Go.Proofs

/-- A body's end: what it answers, and leaves in the objects. -/

theorem massE_nil : massE Edit.nil = 3 := by simp [Edit.nil, massE, massKs, massOs, Tree.nil, mass, massK]

theorem op_len {o : Op} (h : massOp o ≤ 1000000) : o.l.length ≤ 1000000 := by
  have := massK_len o.l
  rw [massOp_e] at h
  omega

theorem opOk_n {o : Op} (h : opOk o) : 0 ≤ o.n ∧ o.n ≤ 1048576 := by
  unfold opOk at h
  omega

theorem opLen_eq (o : Op) : opLen o = if o.kind = 3 then 1 else o.n + o.l.length := rfl

theorem c101 : Contract Try.prog cfg 101 spec101 := by
  refine make101 ?_
  intro o _ hp
  simp only [pre101] at hp
  have hl := op_len hp.1
  refine vc101 _ _ ?_
  (simp only [bif_tl, bif_fr, bif_tlf, bif_frf, Bool.not_eq_true', Bool.not_eq_false', decide_eq_true_eq, decide_eq_false_iff_not, beq_iff_eq, beq_eq_false_iff_ne, bne_iff_ne, ne_eq, bne_eq_false_iff_eq, Bool.or_eq_true, Bool.and_eq_true, Bool.or_eq_false_iff, Bool.and_eq_false_imp])
  exact ⟨fun hk => ends_int rfl (by rw [opLen_eq, if_pos hk]), fun hk => ⟨by unfold InR; omega, ends_int rfl (by rw [opLen_eq, if_neg hk])⟩⟩

theorem c66 : Contract Try.prog cfg 66 spec66 := by
  refine make66 ?_
  intro o _ hp
  simp only [pre66] at hp
  have hl := op_len hp.1
  refine vc66 _ _ ?_
  (simp only [bif_tl, bif_fr, bif_tlf, bif_frf, Bool.not_eq_true', Bool.not_eq_false', decide_eq_true_eq, decide_eq_false_iff_not, beq_iff_eq, beq_eq_false_iff_ne, bne_iff_ne, ne_eq, bne_eq_false_iff_eq, Bool.or_eq_true, Bool.and_eq_true, Bool.or_eq_false_iff, Bool.and_eq_false_imp])
  exact ⟨fun hk => ends_int rfl (by rw [opLen_eq, if_pos hk]), fun hk => ⟨by unfold InR; omega, ends_int rfl (by rw [opLen_eq, if_neg hk])⟩⟩

theorem c102 : Contract Try.prog cfg 102 spec102 := by
  refine make102 ?_
  intro l al _ hp
  refine vc102 _ _ _ ?_
  have e : ((l.length : Int) == 0) = decide (l.length = 0) := by rw [Bool.eq_iff_iff]; (simp only [bif_tl, bif_fr, bif_tlf, bif_frf, Bool.not_eq_true', Bool.not_eq_false', decide_eq_true_eq, decide_eq_false_iff_not, beq_iff_eq, beq_eq_false_iff_ne, bne_iff_ne, ne_eq, bne_eq_false_iff_eq, Bool.or_eq_true, Bool.and_eq_true, Bool.or_eq_false_iff, Bool.and_eq_false_imp]); omega
  rw [e]
  (repeat' (first | exact trivial | exact rfl | refine And.intro ?_ ?_))

theorem c99 : Contract Try.prog cfg 99 spec99 := by
  refine make99 c102 ?_
  intro l al _ hp
  refine vc99 _ _ _ ?_
  have e : (bif (!(decide (l.length = 0))) then ((OpOf.kind (List.getD l (Int.toNat 0) Op.nil)) == al) else false) = sgl al l := by
    rw [Bool.eq_iff_iff]
    simp only [sgl]
    (simp only [bif_tl, bif_fr, bif_tlf, bif_frf, Bool.not_eq_true', Bool.not_eq_false', decide_eq_true_eq, decide_eq_false_iff_not, beq_iff_eq, beq_eq_false_iff_ne, bne_iff_ne, ne_eq, bne_eq_false_iff_eq, Bool.or_eq_true, Bool.and_eq_true, Bool.or_eq_false_iff, Bool.and_eq_false_imp])
    rfl
  rw [e]
  refine ⟨hp, fun h => ⟨by omega, ?_⟩, by (repeat' (first | exact trivial | exact rfl | refine And.intro ?_ ?_))⟩
  revert h
  (simp only [bif_tl, bif_fr, bif_tlf, bif_frf, Bool.not_eq_true', Bool.not_eq_false', decide_eq_true_eq, decide_eq_false_iff_not, beq_iff_eq, beq_eq_false_iff_ne, bne_iff_ne, ne_eq, bne_eq_false_iff_eq, Bool.or_eq_true, Bool.and_eq_true, Bool.or_eq_false_iff, Bool.and_eq_false_imp])
  omega

theorem c24 (c65 : Contract Try.prog cfg 65 spec65) : Contract Try.prog cfg 24 spec24 := by
  refine make24 c65 ?_
  intro p q _ hp
  refine vc24 _ _ _ ?_
  refine ⟨hp, ?_⟩
  (repeat' (first | exact trivial | exact rfl | refine And.intro ?_ ?_))

theorem c28 (c65 : Contract Try.prog cfg 65 spec65) : Contract Try.prog cfg 28 spec28 := by
  refine make28 c65 ?_
  intro p q _ hp
  refine vc28 _ _ _ ?_
  refine ⟨hp, ?_⟩
  (repeat' (first | exact trivial | exact rfl | refine And.intro ?_ ?_))

theorem c100 : Contract Try.prog cfg 100 spec100 := by
  refine make100 c101 ?_
  intro l al n _ hp
  simp only [pre100] at hp
  obtain ⟨⟨ho, hm⟩, hl, h1, h2⟩ := hp
  have hmem := mem_getD (l := l) (i := 0) (by omega) Op.nil
  have hok := ho _ hmem
  have hmo := massOs_mem hmem
  have hlen := massOs_len l
  refine vc100 _ _ _ _ ?_
  rintro y rfl _ rfl _ rfl _ rfl _ rfl
  have e0 : (Int.toNat 0) = 0 := rfl
  have e1 : (Int.toNat 1) = 1 := rfl
  simp only [e0, e1]
  have hT : ∀ o r, takeF (l.getD 0 Op.nil) n = o → takeR l n = r → True := fun _ _ _ _ => trivial
  have hon := opOk_n hok
  have hln := opLen_eq (l.getD 0 Op.nil)
  (simp only [bif_tl, bif_fr, bif_tlf, bif_frf, Bool.not_eq_true', Bool.not_eq_false', decide_eq_true_eq, decide_eq_false_iff_not, beq_iff_eq, beq_eq_false_iff_ne, bne_iff_ne, ne_eq, bne_eq_false_iff_eq, Bool.or_eq_true, Bool.and_eq_true, Bool.or_eq_false_iff, Bool.and_eq_false_imp])
  generalize hy : l.getD 0 Op.nil = y at *
  refine ⟨⟨by omega, by omega⟩, ⟨by dsimp only; omega, hon⟩, fun hc => ⟨⟨by omega, by omega⟩, ?_⟩, fun hc => ⟨fun hk => ⟨by unfold InR; omega, ⟨by omega, by omega⟩, by simp; omega, ?_⟩, fun hk => ?_⟩⟩
  · have t1 : takeF y n = y := by rw [takeF, if_pos hc]
    have t2 : takeR l n = l.drop 1 := by rw [takeR, hy, if_pos hc]
    simp only [res100, resX100, hy, t1, t2]
    (repeat' (first | exact trivial | exact rfl | refine And.intro ?_ ?_))
  · have t1 : takeF y n = ⟨y.kind, n, y.l, y.e⟩ := by rw [takeF, if_neg hc, if_pos hk]
    have t2 : takeR l n = ⟨y.kind, y.n - n, y.l, y.e⟩ :: l.drop 1 := by rw [takeR, hy, if_neg hc, backF, if_pos hk]
    simp only [res100, resX100, hy, t1, t2]
    (repeat' (first | exact trivial | exact rfl | refine And.intro ?_ ?_))
  · have t1 : takeF y n = ⟨y.kind, y.n, y.l.take n.toNat, y.e⟩ := by rw [takeF, if_neg hc, if_neg hk]
    have t2 : takeR l n = ⟨y.kind, y.n, y.l.drop n.toNat, y.e⟩ :: l.drop 1 := by rw [takeR, hy, if_neg hc, backF, if_neg hk]
    simp only [res100, resX100, hy, t1, t2]
    unfold opOk at hok
    refine ⟨?_, trivial, ?_, ⟨by omega, by omega⟩, by simp; omega, ?_⟩
    · split at hln <;> omega
    · split at hln <;> omega
    · (repeat' (first | exact trivial | exact rfl | refine And.intro ?_ ?_))

/-! ## pair -/
theorem massK_drop (n : Nat) : ∀ (l : List Tree), massK (l.drop n) ≤ massK l := by
  induction n with
  | zero => intro l; simp
  | succ n ih =>
    intro l
    cases l with
    | nil => simp
    | cons t r => simp only [List.drop_succ_cons, massK]; have := ih r; omega

theorem massK_take (n : Nat) : ∀ (l : List Tree), massK (l.take n) ≤ massK l := by
  induction n with
  | zero => intro l; simp [massK]
  | succ n ih =>
    intro l
    cases l with
    | nil => simp
    | cons t r => simp only [List.take_succ_cons, massK]; have := ih r; omega

theorem opLen_pos {o : Op} (h : opOk o) : 1 ≤ opLen o := by
  have := opLen_eq o
  unfold opOk at h
  have hl : o.l ≠ [] → 0 < o.l.length := List.length_pos_iff.2
  rcases h with ⟨h1, h2, h3, h4⟩ | ⟨h1, h2, h3, h4⟩ | ⟨h1, h2, h3⟩
  · rw [h2] at this; simp at this; split at this <;> omega
  · have := hl h3; split at * <;> omega
  · rw [if_pos h1] at this; omega

theorem opLen_le {o : Op} (h : opOk o) (hm : massOp o ≤ 1000000) : opLen o ≤ 1048576 := by
  have := opLen_eq o
  have := op_len hm
  have := opOk_n h
  unfold opOk at h
  rcases h with ⟨h1, h2, h3, h4⟩ | ⟨h1, h2, h3, h4⟩ | ⟨h1, h2, h3⟩
  · simp [h2, h1] at *; omega
  · split at * <;> omega
  · split at * <;> omega

theorem massOs_cons (o : Op) (r : List Op) : massOs (o :: r) = massOp o + massOs r := rfl

theorem okOs_drop {l : List Op} (h : okOs l) : okOs (l.drop 1) := by
  cases l with
  | nil => exact h
  | cons o r =>
    obtain ⟨h1, h2⟩ := h
    rw [massOs_cons] at h2
    exact ⟨fun x hx => h1 x (List.mem_cons_of_mem _ hx), by simp only [List.drop_succ_cons, List.drop_zero]; omega⟩

theorem okOs_head {l : List Op} (h : okOs l) (hl : l.length ≠ 0) : opOk (l.getD 0 Op.nil) ∧ massOp (l.getD 0 Op.nil) ≤ 1000000 ∧ massOp (l.getD 0 Op.nil) ≤ massOs l := by
  have hm := mem_getD (l := l) (i := 0) (by omega) Op.nil
  have := massOs_mem hm
  exact ⟨h.1 _ hm, by have := h.2; omega, this⟩

theorem backF_ok {o : Op} {n : Int} (h : opOk o) (h1 : 1 ≤ n) (h2 : ¬ opLen o ≤ n) : opOk (backF o n) ∧ massOp (backF o n) ≤ massOp o := by
  have hl := opLen_eq o
  unfold backF
  unfold opOk at *
  by_cases hk : o.kind = 0
  · rw [if_pos hk]
    refine ⟨Or.inl ?_, by simp only [massOp_e]; omega⟩
    rcases h with h | h | h
    · obtain ⟨a, b, c, d⟩ := h
      rw [b, if_neg (by omega)] at hl
      simp at hl
      exact ⟨a, b, by dsimp only; omega, d⟩
    · omega
    · omega
  · rw [if_neg hk]
    have := massK_drop n.toNat o.l
    refine ⟨Or.inr ?_, by simp only [massOp_e]; omega⟩
    rcases h with h | h | h
    · omega
    · obtain ⟨a, b, c, d⟩ := h
      rw [if_neg (by omega)] at hl
      refine Or.inl ⟨a, b, ?_, d⟩
      intro he
      have := congrArg List.length he
      simp at this
      omega
    · rw [if_pos h.1] at hl; omega

theorem okOs_takeR {l : List Op} {n : Int} (h : okOs l) (hl : l.length ≠ 0) (h1 : 1 ≤ n) : okOs (takeR l n) := by
  unfold takeR
  split
  · exact okOs_drop h
  · rename_i hc
    obtain ⟨a, b, c⟩ := okOs_head h hl
    obtain ⟨d, e⟩ := backF_ok a h1 hc
    have hd := okOs_drop h
    refine ⟨fun x hx => ?_, ?_⟩
    · rcases List.mem_cons.1 hx with rfl | hx
      · exact d
      · exact hd.1 _ hx
    · rw [massOs_cons]
      obtain _ | ⟨o, r⟩ := l
      · simp at hl
      · have := h.2
        rw [massOs_cons] at this
        simp at *
        omega

theorem takeR_all (l : List Op) : takeR l (opLen (l.getD 0 Op.nil)) = l.drop 1 := by rw [takeR, if_pos (Int.le_refl _)]
theorem takeF_all (o : Op) : takeF o (opLen o) = o := by rw [takeF, if_pos (Int.le_refl _)]

theorem sgl_len {a : Int} {l : List Op} (h : sgl a l = true) : l.length ≠ 0 := (of_decide_eq_true h).1

theorem cond_self_any {α : Type} (b : Bool) (x : α) : (bif b then x else x) = x := by cases b <;> rfl

theorem c65 : Contract Try.prog cfg 65 spec65 := by
  refine make65 c99 c100 c101 c102 ?_
  intro pl pa ql qa _ hp
  simp only [pre65] at hp
  have hpl := massOs_len pl
  have hql := massOs_len ql
  have hP := hp.1.2
  have hQ := hp.2.2
  refine vc65 _ _ _ _ _ ?_
  refine loop_rule (ι := List Op × List Op × List Piece) (fun s => head65_0 pl pa ql qa s.1 s.2.1 qa s.2.2) (fun s => okOs s.1 ∧ okOs s.2.1 ∧ s.2.2.length + s.1.length + s.2.1.length ≤ 2000000 ∧ pairG pa qa s.1 s.2.1 s.2.2 = pairG pa qa pl ql []) (fun s => s.1.length + s.2.1.length) (pl, ql, []) rfl ⟨hp.1, hp.2, by simp; omega, rfl⟩ ?_
  rintro ⟨p, q, out⟩ ⟨h1, h2, h3, h4⟩
  refine vc65_l0 _ _ _ _ _ _ _ _ _ _ ?_
  have e0 : (Int.toNat 0) = 0 := rfl
  simp only [e0, cond_self_any]
  dsimp only at h1 h2 h3 h4
  rintro z1 hy1 z2 hy2 y3 hy3 z4 hy4 y1 rfl y2 rfl y4 rfl y8 hy8 y9 hy9 z10 hy10 z11 hy11 y10 rfl y11 rfl
  have ey : y4 = y2 := hy4.trans hy2.symm
  rw [ey] at hy10 hy11 ⊢
  have e3 : (OpOf.mk 0 0 [] y3 : Op) = Op.nil := by rw [hy3]; rfl
  rw [← hy1, takeF_all] at hy8
  rw [← hy2, takeF_all] at hy9
  have hmin : ∀ a b : Int, (if a < b then a else b) = min b a := by intro a b; omega
  rw [← hy1, hmin] at hy10
  rw [← hy2, hmin] at hy11
  simp only [hmin, e3, hy8, hy9]
  (simp only [bif_tl, bif_fr, bif_tlf, bif_frf, Bool.not_eq_true', Bool.not_eq_false', decide_eq_true_eq, decide_eq_false_iff_not, beq_iff_eq, beq_eq_false_iff_ne, bne_iff_ne, ne_eq, bne_eq_false_iff_eq, Bool.or_eq_true, Bool.and_eq_true, Bool.or_eq_false_iff, Bool.and_eq_false_imp])
  have o1 : p.length ≠ 0 → opOk y1 ∧ massOp y1 ≤ 1000000 := fun h => by have := okOs_head h1 h; rw [← hy1] at this; exact ⟨this.1, this.2.1⟩
  have o2 : q.length ≠ 0 → opOk y2 ∧ massOp y2 ≤ 1000000 := fun h => by have := okOs_head h2 h; rw [← hy2] at this; exact ⟨this.1, this.2.1⟩
  have tp : takeR p (opLen y1) = p.drop 1 := by rw [hy1]; exact takeR_all p
  have tq : takeR q (opLen y2) = q.drop 1 := by rw [hy2]; exact takeR_all q
  have hm1 := massOs_len p
  have hm2 := massOs_len q
  have hm3 := h1.2
  have hm4 := h2.2
  rw [pairG] at h4
  rw [← hy1, ← hy2] at h4
  refine ⟨by simp only [pre99]; omega, fun hs => ?_, fun hs => ?_⟩
  · have hl := sgl_len hs
    obtain ⟨oa, ob⟩ := o1 hl
    have oc := opLen_pos oa
    have od := opLen_le oa ob
    rw [dif_pos hs] at h4
    refine ⟨⟨by omega, by omega⟩, ⟨ob, opOk_n oa⟩, ⟨h1, hl, oc, by dsimp only; omega⟩, by simp; omega, (p.drop 1, q, out ++ [⟨1, y1, Op.nil⟩]), by rw [tp], ⟨okOs_drop h1, h2, by simp; omega, h4⟩, by simp; omega⟩
  · rw [dif_neg (by rw [hs]; exact Bool.false_ne_true)] at h4
    refine ⟨by simp only [pre99]; omega, fun hs2 => ?_, fun hs2 => ?_⟩
    · have hl := sgl_len hs2
      obtain ⟨oa, ob⟩ := o2 hl
      have oc := opLen_pos oa
      have od := opLen_le oa ob
      rw [dif_pos hs2] at h4
      refine ⟨⟨by omega, by omega⟩, ⟨ob, opOk_n oa⟩, ⟨h2, hl, oc, by dsimp only; omega⟩, by simp; omega, (p, q.drop 1, out ++ [⟨2, Op.nil, y2⟩]), by rw [tq], ⟨h1, okOs_drop h2, by simp; omega, h4⟩, by simp; omega⟩
    · rw [dif_neg (by rw [hs2]; exact Bool.false_ne_true)] at h4
      refine ⟨by simp only [pre102]; omega, fun _ => by simp only [pre102]; omega, fun hd => ⟨by simp only [pre102]; omega, by simp only [pre102]; omega, fun he => ?_, fun he => ?_⟩, fun hd => ?_⟩
      · rw [dif_pos hd, if_neg he] at h4
        simp only [res65, resX65, ← h4]
        (repeat' (first | exact trivial | exact rfl | refine And.intro ?_ ?_))
      · rw [dif_pos hd, if_pos he] at h4
        simp only [res65, resX65, ← h4]
        (repeat' (first | exact trivial | exact rfl | refine And.intro ?_ ?_))
      · obtain ⟨oa, ob⟩ := o1 hd.1
        obtain ⟨oc, od⟩ := o2 hd.2
        have a1 := opLen_pos oa
        have a2 := opLen_le oa ob
        have a3 := opLen_pos oc
        have a4 := opLen_le oc od
        rw [dif_neg (by omega), ← hy10, ← hy11] at h4
        have c1 := takeR_len_le p (min (opLen y1) (opLen y2)) hd.1
        have c2 := takeR_len_le q (min (opLen y1) (opLen y2)) hd.2
        have c3 : opLen y1 ≤ min (opLen y1) (opLen y2) → (takeR p (min (opLen y1) (opLen y2))).length < p.length := fun h => takeR_len_lt p _ hd.1 (by rw [← hy1]; exact h)
        have c4 : opLen y2 ≤ min (opLen y1) (opLen y2) → (takeR q (min (opLen y1) (opLen y2))).length < q.length := fun h => takeR_len_lt q _ hd.2 (by rw [← hy2]; exact h)
        refine ⟨⟨by omega, by omega⟩, ⟨ob, opOk_n oa⟩, ⟨by omega, by omega⟩, ⟨od, opOk_n oc⟩, ⟨h1, hd.1, by dsimp only; omega, by dsimp only; omega⟩, ⟨h2, hd.2, by dsimp only; omega, by dsimp only; omega⟩, by simp; omega,
          (takeR p (min (opLen y1) (opLen y2)), takeR q (min (opLen y1) (opLen y2)), out ++ [⟨0, y10, y11⟩]), rfl, ⟨okOs_takeR h1 hd.1 (by omega), okOs_takeR h2 hd.2 (by omega), by simp; omega, h4⟩, by dsimp only; omega⟩

end Go.AM.Ytlahjnelghpmeaa
