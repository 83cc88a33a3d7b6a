/- Chapter 24: pieces are, kid by kid, the document's pairs. -/
import Derived.Test.YtlahjnelghpmeaaB24c
set_option linter.unusedSimpArgs false
set_option linter.unusedVariables false
namespace Go.AM.Ytlahjnelghpmeaa
open Go.AM Go.Proofs

def vu (u : AUnit) : Op × Bool := (opU u, u.alone)
def vs (a : Int) (o : Op) : List (Op × Bool) := (unitsOp 0 a o).map vu
def vsL (a : Int) (l : List Op) : List (Op × Bool) := l.flatMap (vs a)

theorem vs_step (i a : Int) (o : Op) : (unitsOp i a o).map vu = vs a o := by
  simp only [vs, unitsOp, List.map_append, List.map_map]
  congr 1
  · split <;> simp [vu, opU]
  · congr 1
    split <;> simp [vu, opU]

theorem vsL_units (a : Int) : ∀ (l : List Op) (i : Int), (unitsF i a l).map vu = vsL a l
  | [], _ => rfl
  | o :: r, i => by
    simp only [unitsF, List.map_append, vs_step, vsL_units a r]
    rfl

theorem vs_len {a : Int} {o : Op} (h : opOk o) : ((vs a o).length : Int) = opLen o := by
  rw [vs, List.length_map]; exact unitsOp_len h 0 a

theorem vs_flag {a : Int} {o : Op} (h : opOk o) (ha : a = 1 ∨ a = 2) : ∀ x ∈ vs a o, x.2 = decide (o.kind = a) := by
  intro x hx
  simp only [vs, List.mem_map] at hx
  obtain ⟨u, hu, rfl⟩ := hx
  simp only [unitsOp, List.mem_append, List.mem_map] at hu
  rcases hu with hu | ⟨t, ht, rfl⟩ | hu
  · split at hu
    · rw [List.eq_of_mem_replicate hu]
      simp only [vu]
      rw [eq_comm, decide_eq_false_iff_not]; omega
    · cases hu
  · rfl
  · split at hu
    · rw [List.mem_singleton.1 hu]
      simp only [vu]
      rw [eq_comm, decide_eq_false_iff_not]; omega
    · cases hu

theorem vs_split {a n : Int} {o : Op} (h : opOk o) (h1 : 1 ≤ n) (hn : ¬ opLen o ≤ n) : vs a o = vs a (takeF o n) ++ vs a (backF o n) ∧ opOk (takeF o n) ∧ opLen (takeF o n) = n ∧ massOp (takeF o n) ≤ massOp o := by
  have hl := opLen_eq o
  rcases h with ⟨k0, k1, k2, k3⟩ | ⟨k0, k1, k2, k3⟩ | ⟨k0, k1, k2⟩
  · have e1 : takeF o n = ⟨o.kind, n, o.l, o.e⟩ := by rw [takeF, if_neg hn, if_pos k0]
    have e2 : backF o n = ⟨o.kind, o.n - n, o.l, o.e⟩ := by rw [backF, if_pos k0]
    rw [if_neg (by omega), k1] at hl
    simp only [List.length_nil] at hl
    rw [e1, e2]
    refine ⟨?_, Or.inl ⟨k0, k1, by dsimp only; omega, k3⟩, ?_, by simp [massOp_e]⟩
    · simp only [vs, unitsOp, k0, k1]
      simp only [if_true, List.map_nil, List.nil_append, List.map_append, List.map_replicate]
      rw [if_neg (by decide)]
      simp only [List.map_nil, List.append_nil]
      rw [List.replicate_append_replicate]
      congr 1
      omega
    · rw [opLen_eq]
      dsimp only
      rw [if_neg (by omega), k1]
      simp
  · have e1 : takeF o n = ⟨o.kind, o.n, o.l.take n.toNat, o.e⟩ := by rw [takeF, if_neg hn, if_neg (by omega)]
    have e2 : backF o n = ⟨o.kind, o.n, o.l.drop n.toNat, o.e⟩ := by rw [backF, if_neg (by omega)]
    rw [if_neg (by omega)] at hl
    have hm := massK_take n.toNat o.l
    rw [e1, e2]
    refine ⟨?_, Or.inr (Or.inl ⟨k0, k1, ?_, k3⟩), ?_, by simp only [massOp_e]; omega⟩
    · simp only [vs, unitsOp]
      rw [if_neg (by omega), if_neg (by omega)]
      simp only [List.nil_append, List.append_nil]
      rw [← List.map_append, ← List.map_append, List.take_append_drop]
    · intro he
      have := congrArg List.length he
      simp only [List.length_take, List.length_nil] at this
      omega
    · rw [opLen_eq]
      dsimp only
      rw [if_neg (by omega), List.length_take]
      omega
  · rw [if_pos k0] at hl
    omega

def okL (l : List Op) : Prop := ∀ o ∈ l, opOk o ∧ massOp o ≤ 900000

theorem okL_drop {l : List Op} (h : okL l) : okL (l.drop 1) := fun o ho => h o (List.mem_of_mem_drop ho)

theorem okL_head {l : List Op} (h : okL l) (hl : l.length ≠ 0) : opOk (l.getD 0 Op.nil) ∧ massOp (l.getD 0 Op.nil) ≤ 900000 := h _ (mem_getD (l := l) (i := 0) (by omega) Op.nil)

/-- What is taken of steps, and what stays. -/
theorem take_split {a n : Int} {p : List Op} (h : okL p) (hl : p.length ≠ 0) (h1 : 1 ≤ n) (hn : n ≤ opLen (p.getD 0 Op.nil)) :
    vsL a p = vs a (takeF (p.getD 0 Op.nil) n) ++ vsL a (takeR p n) ∧ opOk (takeF (p.getD 0 Op.nil) n) ∧ opLen (takeF (p.getD 0 Op.nil) n) = n ∧ massOp (takeF (p.getD 0 Op.nil) n) ≤ 900000 ∧ okL (takeR p n) := by
  obtain ⟨ha, hb⟩ := okL_head h hl
  obtain _ | ⟨o, r⟩ := p
  · simp at hl
  have e : (o :: r).getD 0 Op.nil = o := rfl
  unfold takeR
  simp only [e] at ha hb hn ⊢
  by_cases hc : opLen o ≤ n
  · have t : takeF o n = o := by rw [takeF, if_pos hc]
    rw [if_pos hc, t]
    exact ⟨rfl, ha, by omega, hb, okL_drop h⟩
  · rw [if_neg hc]
    obtain ⟨g1, g2, g3, g4⟩ := vs_split (a := a) ha h1 hc
    obtain ⟨b1, b2⟩ := backF_ok ha h1 hc
    refine ⟨?_, g2, g3, by omega, ?_⟩
    · simp only [vsL, List.flatMap_cons, List.drop_succ_cons, List.drop_zero]
      rw [g1, List.append_assoc]
    · intro x hx
      rcases List.mem_cons.1 hx with rfl | hx
      · exact ⟨b1, by omega⟩
      · exact okL_drop h x hx

/-! ## pairs, by blocks -/
theorem alo_cons (u : AUnit) (P : List AUnit) : alo (u :: P) = u.alone := by
  rw [Bool.eq_iff_iff]
  unfold alo
  rw [decide_eq_true_eq]
  simp

theorem pairs_first : ∀ (A P Q : List AUnit) (out : List APair), (∀ u ∈ A, u.alone = true) → pairsG (A ++ P) Q out = pairsG P Q (out ++ A.map (fun u => ⟨1, u, AUnit.nil⟩))
  | [], P, Q, out, _ => by simp
  | u :: A, P, Q, out, h => by
    have hu := h u (List.mem_cons_self ..)
    rw [List.cons_append, pairsG, dif_pos (by rw [alo_cons]; exact hu)]
    have := pairs_first A P Q (out ++ [⟨1, u, AUnit.nil⟩]) (fun x hx => h x (List.mem_cons_of_mem _ hx))
    simp only [List.drop_succ_cons, List.drop_zero, List.map_cons]
    rw [show (u :: (A ++ P)).getD 0 AUnit.nil = u from rfl, this, List.append_assoc]
    rfl

theorem pairs_second : ∀ (B P Q : List AUnit) (out : List APair), alo P = false → (∀ u ∈ B, u.alone = true) → pairsG P (B ++ Q) out = pairsG P Q (out ++ B.map (fun u => ⟨2, AUnit.nil, u⟩))
  | [], P, Q, out, _, _ => by simp
  | u :: B, P, Q, out, hp, h => by
    have hu := h u (List.mem_cons_self ..)
    rw [List.cons_append, pairsG, dif_neg (by rw [hp]; exact Bool.false_ne_true), dif_pos (by rw [alo_cons]; exact hu)]
    have := pairs_second B P Q (out ++ [⟨2, AUnit.nil, u⟩]) hp (fun x hx => h x (List.mem_cons_of_mem _ hx))
    simp only [List.drop_succ_cons, List.drop_zero, List.map_cons]
    rw [show (u :: (B ++ Q)).getD 0 AUnit.nil = u from rfl, this, List.append_assoc]
    rfl

theorem pairs_both : ∀ (A B P Q : List AUnit) (out : List APair), A.length = B.length → (∀ u ∈ A, u.alone = false) → (∀ u ∈ B, u.alone = false) → pairsG (A ++ P) (B ++ Q) out = pairsG P Q (out ++ List.zipWith (fun u w => ⟨0, u, w⟩) A B)
  | [], [], P, Q, out, _, _, _ => by simp
  | [], _ :: _, _, _, _, h, _, _ => by simp at h
  | _ :: _, [], _, _, _, h, _, _ => by simp at h
  | u :: A, w :: B, P, Q, out, hl, ha, hb => by
    have hu := ha u (List.mem_cons_self ..)
    have hw := hb w (List.mem_cons_self ..)
    rw [List.cons_append, List.cons_append, pairsG, dif_neg (by rw [alo_cons, hu]; exact Bool.false_ne_true), dif_neg (by rw [alo_cons, hw]; exact Bool.false_ne_true), dif_neg (by simp)]
    have := pairs_both A B P Q (out ++ [⟨0, u, w⟩]) (by simpa using hl) (fun x hx => ha x (List.mem_cons_of_mem _ hx)) (fun x hx => hb x (List.mem_cons_of_mem _ hx))
    simp only [List.drop_succ_cons, List.drop_zero, List.zipWith_cons_cons]
    rw [show (u :: (A ++ P)).getD 0 AUnit.nil = u from rfl, show (w :: (B ++ Q)).getD 0 AUnit.nil = w from rfl, this, List.append_assoc]
    rfl

/-! ## the law -/
theorem alo_eq {a : Int} {p : List Op} {P : List AUnit} (h : okL p) (ha : a = 1 ∨ a = 2) (e : P.map vu = vsL a p) : alo P = sgl a p ∧ (P.length = 0 ↔ p.length = 0) := by
  obtain _ | ⟨o, r⟩ := p
  · have : P = [] := by simpa [vsL] using e
    rw [this]
    exact ⟨rfl, by simp⟩
  · have ho := (h o (List.mem_cons_self ..)).1
    have hl := vs_len (a := a) ho
    have hp := opLen_pos ho
    have hf := vs_flag ho ha
    simp only [vsL, List.flatMap_cons] at e
    obtain _ | ⟨u, P⟩ := P
    · have := congrArg List.length e
      simp at this
      omega
    · cases hv : vs a o with
      | nil => rw [hv] at hl; simp at hl; omega
      | cons x xs =>
        rw [hv] at e hf
        have h1 : vu u = x := by simpa using (List.cons.inj e).1
        have h2 := hf x (List.mem_cons_self ..)
        rw [← h1] at h2
        refine ⟨?_, by simp⟩
        rw [alo_cons, show u.alone = (vu u).2 from rfl, h2]
        simp [sgl]

theorem flags {a : Int} {o : Op} {A : List AUnit} (h : opOk o) (ha : a = 1 ∨ a = 2) (e : A.map vu = vs a o) : (∀ u ∈ A, u.alone = decide (o.kind = a)) ∧ (A.length : Int) = opLen o ∧ sameU o a A := by
  refine ⟨fun u hu => ?_, ?_, ?_⟩
  · exact vs_flag h ha (vu u) (by rw [← e]; exact List.mem_map_of_mem hu)
  · rw [← vs_len (a := a) h, ← e, List.length_map]
  · have := congrArg (List.map Prod.fst) e
    simp only [vs, List.map_map] at this
    unfold sameU
    rw [unitsF_one]
    exact this.symm

theorem sgl_iff {a : Int} {l : List Op} : sgl a l = true ↔ (l.length ≠ 0 ∧ (l.getD 0 Op.nil).kind = a) := by unfold sgl; exact decide_eq_true_iff

theorem takeF_kind (o : Op) (n : Int) : (takeF o n).kind = o.kind := by
  unfold takeF; split
  · rfl
  · split <;> rfl

theorem zip_map {A B : List AUnit} (h : A.length = B.length) : (List.zipWith (fun u w => (⟨0, u, w⟩ : APair)) A B).map APair.p = A ∧ (List.zipWith (fun u w => (⟨0, u, w⟩ : APair)) A B).map APair.q = B := by
  induction A generalizing B with
  | nil => cases B with
    | nil => exact ⟨rfl, rfl⟩
    | cons => simp at h
  | cons u A ih => cases B with
    | nil => simp at h
    | cons w B =>
      have := ih (B := B) (by simpa using h)
      simp only [List.zipWith_cons_cons, List.map_cons, this.1, this.2]
      exact ⟨trivial, trivial⟩

theorem zip_of {A B : List AUnit} : ∀ y ∈ List.zipWith (fun u w => (⟨0, u, w⟩ : APair)) A B, y.of = 0 := by
  induction A generalizing B with
  | nil => intro y hy; simp at hy
  | cons u A ih => cases B with
    | nil => intro y hy; simp at hy
    | cons w B =>
      intro y hy
      rcases List.mem_cons.1 hy with rfl | hy
      · rfl
      · exact ih y hy

theorem pair_law (a : Int) (ha : a = 1 ∨ a = 2) : ∀ (k : Nat) (p q : List Op) (out : List Piece) (P Q : List AUnit) (outm : List APair), p.length + q.length ≤ k → okL p → okL q → P.map vu = vsL a p → Q.map vu = vsL 2 q →
    ∃ (ok : Bool) (l : List Piece) (m : List APair), (pairG a 2 p q out).1 = (if ok = true then out ++ l else []) ∧ (pairG a 2 p q out).2.1 = ok ∧ pairsG P Q outm = (if ok = true then outm ++ m else [], ok)
      ∧ (ok = true → alikeP a l m ∧ l.length ≤ p.length + q.length ∧ m.length ≤ P.length + Q.length) := by
  intro k
  induction k with
  | zero =>
    intro p q out P Q outm hk hp hq eP eQ
    have h1 : p = [] := List.length_eq_zero_iff.1 (by omega)
    have h2 : q = [] := List.length_eq_zero_iff.1 (by omega)
    subst h1 h2
    have h3 : P = [] := by simpa [vsL] using eP
    have h4 : Q = [] := by simpa [vsL] using eQ
    subst h3 h4
    refine ⟨true, [], [], ?_, ?_, ?_, fun _ => ⟨rfl, by simp, by simp⟩⟩
    · rw [pairG]; simp [sgl]
    · rw [pairG]; simp [sgl]
    · rw [pairsG]; simp [alo]
  | succ k ih =>
    intro p q out P Q outm hk hp hq eP eQ
    obtain ⟨aP, lP⟩ := alo_eq hp ha eP
    obtain ⟨aQ, lQ⟩ := alo_eq hq (Or.inr rfl) eQ
    rw [pairG]
    by_cases h1 : sgl a p = true
    · rw [dif_pos h1]
      obtain ⟨hl, hkind⟩ := sgl_iff.1 h1
      obtain ⟨oa, ob⟩ := okL_head hp hl
      obtain ⟨s1, s2, s3, s4, s5⟩ := take_split (a := a) hp hl (opLen_pos oa) (Int.le_refl _)
      rw [takeR_all] at s1 s5
      rw [takeF_all] at s1 s2 s3 s4
      rw [s1] at eP
      obtain ⟨A, P', rfl, eA, eP'⟩ := List.map_eq_append_iff.1 eP
      obtain ⟨f1, f2, f3⟩ := flags oa ha eA
      rw [decide_eq_true hkind] at f1
      rw [pairs_first A P' Q outm f1]
      obtain ⟨ok, l, m, e1, e2, e3, e4⟩ := ih (p.drop 1) q (out ++ [⟨1, p.getD 0 Op.nil, Op.nil⟩]) P' Q (outm ++ A.map (fun u => ⟨1, u, AUnit.nil⟩)) (by simp; omega) s5 hq eP' eQ
      refine ⟨ok, ⟨1, p.getD 0 Op.nil, Op.nil⟩ :: l, A.map (fun u => ⟨1, u, AUnit.nil⟩) ++ m, by rw [e1, List.append_assoc]; rfl, e2, by rw [e3, List.append_assoc], fun hok => ?_⟩
      obtain ⟨g1, g2, g3⟩ := e4 hok
      have hpos := opLen_pos oa
      refine ⟨?_, by simp only [List.length_cons, List.length_drop] at g2 ⊢; omega, by simp only [List.length_append, List.length_map] at g3 ⊢; omega⟩
      rw [alikeP_cons]
      refine ⟨A.map (fun u => ⟨1, u, AUnit.nil⟩), m, rfl, ?_, ⟨Or.inr (Or.inl rfl), fun h => by simp at h, ?_, fun _ => ⟨oa, ob, ?_, ?_⟩, fun h => absurd rfl h⟩, g1⟩
      · intro he; have := congrArg List.length he; simp only [List.length_map, List.length_nil] at this; omega
      · intro y hy; obtain ⟨u, _, rfl⟩ := List.mem_map.1 hy; rfl
      · rw [List.length_map]; exact f2.symm
      · rw [List.map_map]
        have : (APair.p ∘ fun u => (⟨1, u, AUnit.nil⟩ : APair)) = id := rfl
        rw [this, List.map_id]; exact f3
    · rw [dif_neg h1]
      have nP : alo P = false := by rw [aP]; exact Bool.not_eq_true _ ▸ h1
      by_cases h2 : sgl 2 q = true
      · rw [dif_pos h2]
        obtain ⟨hl, hkind⟩ := sgl_iff.1 h2
        obtain ⟨oa, ob⟩ := okL_head hq hl
        obtain ⟨s1, s2, s3, s4, s5⟩ := take_split (a := 2) hq hl (opLen_pos oa) (Int.le_refl _)
        rw [takeR_all] at s1 s5
        rw [takeF_all] at s1 s2 s3 s4
        rw [s1] at eQ
        obtain ⟨B, Q', rfl, eB, eQ'⟩ := List.map_eq_append_iff.1 eQ
        obtain ⟨f1, f2, f3⟩ := flags oa (Or.inr rfl) eB
        rw [decide_eq_true hkind] at f1
        rw [pairs_second B P Q' outm nP f1]
        obtain ⟨ok, l, m, e1, e2, e3, e4⟩ := ih p (q.drop 1) (out ++ [⟨2, Op.nil, q.getD 0 Op.nil⟩]) P Q' (outm ++ B.map (fun u => ⟨2, AUnit.nil, u⟩)) (by simp; omega) hp s5 eP eQ'
        refine ⟨ok, ⟨2, Op.nil, q.getD 0 Op.nil⟩ :: l, B.map (fun u => ⟨2, AUnit.nil, u⟩) ++ m, by rw [e1, List.append_assoc]; rfl, e2, by rw [e3, List.append_assoc], fun hok => ?_⟩
        obtain ⟨g1, g2, g3⟩ := e4 hok
        have hpos := opLen_pos oa
        refine ⟨?_, by simp only [List.length_cons, List.length_drop] at g2 ⊢; omega, by simp only [List.length_append, List.length_map] at g3 ⊢; omega⟩
        rw [alikeP_cons]
        refine ⟨B.map (fun u => ⟨2, AUnit.nil, u⟩), m, rfl, ?_, ⟨Or.inr (Or.inr rfl), fun _ => rfl, ?_, fun h => absurd rfl h, fun _ => ⟨oa, ob, ?_, ?_⟩⟩, g1⟩
        · intro he; have := congrArg List.length he; simp only [List.length_map, List.length_nil] at this; omega
        · intro y hy; obtain ⟨u, _, rfl⟩ := List.mem_map.1 hy; rfl
        · rw [List.length_map]; exact f2.symm
        · rw [List.map_map]
          have : (APair.q ∘ fun u => (⟨2, AUnit.nil, u⟩ : APair)) = id := rfl
          rw [this, List.map_id]; exact f3
      · rw [dif_neg h2]
        have nQ : alo Q = false := by rw [aQ]; exact Bool.not_eq_true _ ▸ h2
        by_cases h3 : p.length = 0 ∨ q.length = 0
        · rw [dif_pos h3]
          have e0 : pairsG P Q outm = if decide (P.length = 0) = decide (Q.length = 0) then (outm, true) else ([], false) := by
            rw [pairsG, dif_neg (by rw [nP]; exact Bool.false_ne_true), dif_neg (by rw [nQ]; exact Bool.false_ne_true), dif_pos (by rw [lP, lQ]; exact h3)]
          have e5 : decide (P.length = 0) = decide (p.length = 0) := decide_eq_decide.2 lP
          have e6 : decide (Q.length = 0) = decide (q.length = 0) := decide_eq_decide.2 lQ
          rw [e5, e6] at e0
          by_cases h4 : decide (p.length = 0) = decide (q.length = 0)
          · rw [if_pos h4] at e0 ⊢
            exact ⟨true, [], [], by simp, rfl, by rw [e0]; simp, fun _ => ⟨rfl, by simp, by simp⟩⟩
          · rw [if_neg h4] at e0 ⊢
            exact ⟨false, [], [], rfl, rfl, e0, fun h => by cases h⟩
        · rw [dif_neg h3]
          have l1 : p.length ≠ 0 := by omega
          have l2 : q.length ≠ 0 := by omega
          obtain ⟨oa, ob⟩ := okL_head hp l1
          obtain ⟨oc, od⟩ := okL_head hq l2
          have p1 := opLen_pos oa
          have p2 := opLen_pos oc
          generalize hn : min (opLen (p.getD 0 Op.nil)) (opLen (q.getD 0 Op.nil)) = n
          obtain ⟨s1, s2, s3, s4, s5⟩ := take_split (a := a) (n := n) hp l1 (by omega) (by omega)
          obtain ⟨t1, t2, t3, t4, t5⟩ := take_split (a := 2) (n := n) hq l2 (by omega) (by omega)
          have k1 : (takeF (p.getD 0 Op.nil) n).kind ≠ a := by
            rw [takeF_kind]; intro h; exact h1 (sgl_iff.2 ⟨l1, h⟩)
          have k2 : (takeF (q.getD 0 Op.nil) n).kind ≠ 2 := by
            rw [takeF_kind]; intro h; exact h2 (sgl_iff.2 ⟨l2, h⟩)
          have c1 := takeR_len_le p n l1
          have c2 := takeR_len_le q n l2
          have c3 : opLen (p.getD 0 Op.nil) ≤ n → (takeR p n).length < p.length := fun h => takeR_len_lt p _ l1 h
          have c4 : opLen (q.getD 0 Op.nil) ≤ n → (takeR q n).length < q.length := fun h => takeR_len_lt q _ l2 h
          rw [s1] at eP
          rw [t1] at eQ
          obtain ⟨A, P', rfl, eA, eP'⟩ := List.map_eq_append_iff.1 eP
          obtain ⟨B, Q', rfl, eB, eQ'⟩ := List.map_eq_append_iff.1 eQ
          obtain ⟨f1, f2, f3⟩ := flags s2 ha eA
          obtain ⟨g1, g2, g3⟩ := flags t2 (Or.inr rfl) eB
          rw [decide_eq_false k1] at f1
          rw [decide_eq_false k2] at g1
          have hAB : A.length = B.length := by omega
          rw [pairs_both A B P' Q' outm hAB f1 g1]
          obtain ⟨ok, l, m, e1, e2, e3, e4⟩ := ih (takeR p n) (takeR q n) (out ++ [⟨0, takeF (p.getD 0 Op.nil) n, takeF (q.getD 0 Op.nil) n⟩]) P' Q' (outm ++ List.zipWith (fun u w => ⟨0, u, w⟩) A B) (by omega) s5 t5 eP' eQ'
          refine ⟨ok, ⟨0, takeF (p.getD 0 Op.nil) n, takeF (q.getD 0 Op.nil) n⟩ :: l, List.zipWith (fun u w => ⟨0, u, w⟩) A B ++ m, by rw [e1, List.append_assoc]; rfl, e2, by rw [e3, List.append_assoc], fun hok => ?_⟩
          obtain ⟨i1, i2, i3⟩ := e4 hok
          have hzl : (List.zipWith (fun u w => (⟨0, u, w⟩ : APair)) A B).length = A.length := by rw [List.length_zipWith, hAB, Nat.min_self]
          obtain ⟨z1, z2⟩ := zip_map hAB
          refine ⟨?_, by simp only [List.length_cons]; omega, by simp only [List.length_append, hzl]; omega⟩
          rw [alikeP_cons]
          refine ⟨List.zipWith (fun u w => ⟨0, u, w⟩) A B, m, rfl, ?_, ⟨Or.inl rfl, fun h => by simp at h, zip_of, fun _ => ⟨s2, s4, ?_, ?_⟩, fun _ => ⟨t2, t4, ?_, ?_⟩⟩, i1⟩
          · intro he; have := congrArg List.length he; rw [hzl, List.length_nil] at this; omega
          · rw [hzl]; exact f2.symm
          · rw [z1]; exact f3
          · rw [hzl, hAB]; exact g2.symm
          · rw [z2]; exact g3

end Go.AM.Ytlahjnelghpmeaa
