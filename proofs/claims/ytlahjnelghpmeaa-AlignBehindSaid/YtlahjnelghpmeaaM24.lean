/- Chapter 24: the statements' functions. -/
import Derived.Test.YtlahjnelghpmeaaL24
set_option linter.unusedSimpArgs false
set_option linter.unusedVariables false
namespace Go.AM.Ytlahjnelghpmeaa
open Go.AM Go.Proofs

theorem noneT_eq {t : Tree} (h : noneT t = true) : t = Tree.nil := by
  obtain ⟨k, w, ks⟩ := t
  have := of_decide_eq_true h
  simp at this
  obtain ⟨rfl, rfl, rfl⟩ := this
  rfl

theorem sameE_nil {e : Edit} (h : sameE e = true) : e = Edit.nil := by
  obtain ⟨h1, h2, h3, h4, h5, h6, h7⟩ := sameE_eq h
  obtain ⟨k, o, n, w, ks, l, os⟩ := e
  simp at h1 h2 h3 h4 h5 h6 h7
  subst h1 h4 h5 h6 h7
  rw [noneT_eq h2, noneT_eq h3]
  rfl

theorem rightOp_ok {list : Int} {o : Op} {d : Int} (h : rightOp list o d = true) : opOk o := by
  rw [rightOp_at] at h
  unfold opOk
  split at h
  · rename_i h0
    simp only [Bool.and_eq_true, decide_eq_true_eq] at h
    exact Or.inl ⟨h0, List.length_eq_zero_iff.1 h.1.2.2, ⟨h.1.1, h.1.2.1⟩, sameE_nil h.2⟩
  · split at h
    · cases h
    · rename_i h0 h1
      split at h
      · simp only [Bool.and_eq_true, decide_eq_true_eq] at h
        refine Or.inr (Or.inl ⟨by omega, by omega, ?_, sameE_nil h.2⟩)
        exact List.length_pos_iff.1 h.1.2
      · simp only [Bool.and_eq_true, decide_eq_true_eq] at h
        exact Or.inr (Or.inr ⟨by omega, by omega, List.length_eq_zero_iff.1 h.1.1.1⟩)

theorem lenA_ge : ∀ (l : List Op) (n : Int), (∀ o ∈ l, opOk o) → n ≤ 1048576 → n ≤ lenA l n
  | [], n, _, _ => Int.le_refl n
  | o :: r, n, h, hn => by
    have hp := opLen_pos (h o (List.mem_cons_self ..))
    have hx : n ≤ (if o.kind = 2 then n else n + opLen o) := by split <;> omega
    have := lenA_ge r (min (if o.kind = 2 then n else n + opLen o) 1048576) (fun x hx => h x (List.mem_cons_of_mem _ hx)) (by omega)
    simp only [lenA]
    omega

theorem lenB_ge : ∀ (l : List Op) (n : Int), (∀ o ∈ l, opOk o) → n ≤ 1048576 → n ≤ lenB l n
  | [], n, _, _ => Int.le_refl n
  | o :: r, n, h, hn => by
    have hp := opLen_pos (h o (List.mem_cons_self ..))
    have hx : n ≤ (if o.kind = 1 then n else n + opLen o) := by split <;> omega
    have := lenB_ge r (min (if o.kind = 1 then n else n + opLen o) 1048576) (fun x hx => h x (List.mem_cons_of_mem _ hx)) (by omega)
    simp only [lenB]
    omega

theorem kids_le : ∀ (l : List Op) (n m : Int), (∀ o ∈ l, opOk o) → lenA l n ≤ 2000 → lenB l m ≤ 2000 → kidsOs l + n + m ≤ lenA l n + lenB l m
  | [], n, m, _, _, _ => by simp [kidsOs, lenA, lenB]
  | o :: r, n, m, h, hA, hB => by
    have hp := opLen_pos (h o (List.mem_cons_self ..))
    have hr : ∀ x ∈ r, opOk x := fun x hx => h x (List.mem_cons_of_mem _ hx)
    simp only [lenA] at hA ⊢
    simp only [lenB] at hB ⊢
    have h1 : n ≤ (if o.kind = 2 then n else n + opLen o) := by split <;> omega
    have h2 : m ≤ (if o.kind = 1 then m else m + opLen o) := by split <;> omega
    have h3 : n + m + opLen o ≤ (if o.kind = 2 then n else n + opLen o) + (if o.kind = 1 then m else m + opLen o) := by split <;> split <;> omega
    generalize (if o.kind = 2 then n else n + opLen o) = x at *
    generalize (if o.kind = 1 then m else m + opLen o) = y at *
    have gA := lenA_ge r (min x 1048576) hr (by omega)
    have gB := lenB_ge r (min y 1048576) hr (by omega)
    have := kids_le r _ _ hr hA hB
    simp only [kidsOs]
    omega

theorem steps_ok {l : List Op} (h : stepsOk l = true) : okOs l ∧ okL l ∧ kidsOs l ≤ 4000 ∧ massOs l ≤ 3000 := by
  have key : ∀ list : Int, good (.mk 3 Tree.nil Tree.nil [] [] list l) = true → okOs l ∧ okL l ∧ kidsOs l ≤ 4000 ∧ massOs l ≤ 3000 := by
    intro list hg
    simp only [good, Bool.and_eq_true, decide_eq_true_eq] at hg
    obtain ⟨⟨h1, h2⟩, h3⟩ := hg
    have hm := few_massE h1
    have hme := len_massE (.mk 3 Tree.nil Tree.nil [] [] list l)
    simp only [Edit.ops_mk] at hme
    have hops := (rightE_in h2).2
    simp only [Edit.ops_mk, Edit.list_mk] at hops
    have hok : ∀ o ∈ l, opOk o := fun o ho => rightOp_ok (hops o ho)
    rw [lightE_at] at h3
    simp only [Bool.and_eq_true] at h3
    have hd : lenA l 0 ≤ 2000 ∧ lenB l 0 ≤ 2000 := of_decide_eq_true h3.1.1
    have hk := kids_le l 0 0 hok hd.1 hd.2
    refine ⟨⟨hok, by omega⟩, fun o ho => ⟨hok o ho, ?_⟩, by omega, by omega⟩
    have := massOs_mem ho
    omega
  simp only [stepsOk, Bool.or_eq_true] at h
  rcases h with h | h
  · exact key _ h
  · exact key _ h

theorem c22 : Contract Try.prog cfg 22 spec22 := by
  refine make22 c37 ?_
  intro l _ hp
  simp only [pre22] at hp
  refine vc22 _ _ ?_
  refine ⟨hp, fun _ => ⟨?_, ?_⟩, by (repeat' (first | exact trivial | exact rfl | refine And.intro ?_ ?_))⟩
  · have := hp.1
    simp only [smallE] at this ⊢
    exact this
  · have := hp.2
    simp only [rngE] at this ⊢
    exact ⟨this.1, this.2.1, this.2.2.1, this.2.2.2.1, by unfold isI; omega, this.2.2.2.2.2⟩

theorem awake_pair (t : Tree) : ∃ r s, pairG 2 2 [⟨0, 3, [], Edit.nil⟩] [⟨0, 1, [], Edit.nil⟩, ⟨2, 0, [t], Edit.nil⟩, ⟨0, 2, [], Edit.nil⟩] [] = ([⟨0, ⟨0, 1, [], Edit.nil⟩, ⟨0, 1, [], Edit.nil⟩⟩, ⟨2, Op.nil, ⟨2, 0, [t], Edit.nil⟩⟩, ⟨0, ⟨0, 2, [], Edit.nil⟩, ⟨0, 2, [], Edit.nil⟩⟩], true, r, s) := by
  refine ⟨[], [], ?_⟩
  rw [pairG, dif_neg (by simp [sgl]), dif_neg (by simp [sgl]), dif_neg (by simp)]
  have h1 : opLen ⟨0, 3, [], Edit.nil⟩ = 3 := rfl
  have h2 : opLen ⟨0, 1, [], Edit.nil⟩ = 1 := rfl
  have h3 : opLen ⟨0, 2, [], Edit.nil⟩ = 2 := rfl
  have m1 : min (3 : Int) 1 = 1 := rfl
  simp only [List.getD_cons_zero, h1, h2, m1, takeR, takeF, backF]
  simp only [show ¬ (3 : Int) ≤ 1 by decide, if_false, if_true, Int.le_refl, List.drop_succ_cons, List.drop_zero, List.nil_append, show (3 : Int) - 1 = 2 from rfl]
  rw [pairG, dif_neg (by simp [sgl]), dif_pos (by simp [sgl])]
  simp only [List.getD_cons_zero, List.drop_succ_cons, List.drop_zero, List.cons_append, List.nil_append]
  rw [pairG, dif_neg (by simp [sgl]), dif_neg (by simp [sgl]), dif_neg (by simp)]
  simp only [List.getD_cons_zero, h3, Int.min_self, takeR, takeF, backF, if_true, Int.le_refl, List.drop_succ_cons, List.drop_zero, List.cons_append, List.nil_append]
  rw [pairG, dif_neg (by simp [sgl]), dif_neg (by simp [sgl]), dif_pos (by simp), if_pos rfl]

theorem c23 : Contract Try.prog cfg 23 spec23 := by
  refine make23 (c24 c65) ?_
  intro _ _
  refine vc23 _ ?_
  rintro y1 hy1 y2 hy2 y3 hy3 y4 hy4 y5 hy5
  have e1 : y1 = Edit.nil := hy1
  obtain ⟨r, s, he⟩ := awake_pair (Tree.mk 10 [1] [])
  rw [e1, he] at hy2
  rw [hy2] at hy3 hy4 hy5 ⊢
  simp only [List.getD_eq_getElem?_getD] at hy3 hy4 hy5
  have e3 : y3 = ⟨0, ⟨0, 1, [], Edit.nil⟩, ⟨0, 1, [], Edit.nil⟩⟩ := hy3
  have e4 : y4 = ⟨2, Op.nil, ⟨2, 0, [Tree.mk 10 [1] []], Edit.nil⟩⟩ := hy4
  have e5 : y5 = ⟨0, ⟨0, 2, [], Edit.nil⟩, ⟨0, 2, [], Edit.nil⟩⟩ := hy5
  rw [e1, e3, e4, e5]
  have hn := massE_nil
  have ht : mass (Tree.mk 10 [1] []) = 2 := by simp [mass, massK]
  refine ⟨⟨⟨?_, ?_⟩, ⟨?_, ?_⟩⟩, ?_⟩
  · intro o ho
    rw [List.mem_singleton.1 ho]
    exact Or.inl ⟨rfl, rfl, ⟨by decide, by decide⟩, rfl⟩
  · simp only [massOs, massOp, massK, hn]; omega
  · intro o ho
    simp only [List.mem_cons, List.not_mem_nil, or_false] at ho
    rcases ho with rfl | rfl | rfl
    · exact Or.inl ⟨rfl, rfl, ⟨by decide, by decide⟩, rfl⟩
    · exact Or.inr (Or.inl ⟨Or.inr rfl, rfl, by simp, rfl⟩)
    · exact Or.inl ⟨rfl, rfl, ⟨by decide, by decide⟩, rfl⟩
  · simp only [massOs, massOp, massK, hn, ht]; omega
  · simp
    (repeat' (first | exact trivial | exact rfl | refine And.intro ?_ ?_))

theorem c3 : Contract Try.prog cfg 3 spec3 := by
  refine make3 c22 c23 (c24 c65) c25 c26 c27 ?_
  intro p q _ hp
  simp only [pre3] at hp
  refine vc3 _ _ _ ?_
  refine ⟨hp.1, fun _ => hp.2, fun hc => ⟨trivial, ends_bool rfl rfl⟩, fun hc => ?_⟩
  have hs : stepsOk p = true ∧ stepsOk q = true := by
    revert hc
    cases stepsOk p <;> cases stepsOk q <;> simp
  obtain ⟨a1, a2, a3, a4⟩ := steps_ok hs.1
  obtain ⟨b1, b2, b3, b4⟩ := steps_ok hs.2
  have n1 := unitsF_len 2 p 0 a1.1
  have n2 := unitsF_len 2 q 0 b1.1
  have n3 := massOs_len p
  have n4 := massOs_len q
  obtain ⟨ok, l, m, e1, e2, e3, e4⟩ := pair_law 2 (Or.inr rfl) (p.length + q.length) p q [] (unitsF 0 2 p) (unitsF 0 2 q) [] (Nat.le_refl _) a2 b2 (vsL_units 2 p 0) (vsL_units 2 q 0)
  rw [e1, e2, e3]
  refine ⟨⟨a1, b1⟩, ⟨a1, by dsimp only; omega⟩, ⟨b1, by dsimp only; omega⟩, ⟨by dsimp only; omega, by dsimp only; omega⟩, fun _ => ?_, fun _ => trivial, ends_bool rfl ?_⟩
  · cases ok with
    | false => exact ⟨rfl, by simp, by simp⟩
    | true =>
      obtain ⟨g1, g2, g3⟩ := e4 rfl
      exact ⟨g1, by simp; omega, by simp; omega⟩
  · cases ok <;> simp

theorem c5 : Contract Try.prog cfg 5 spec5 := by
  refine make5 c22 c23 c25 c26 c27 (c28 c65) ?_
  intro p q _ hp
  simp only [pre5] at hp
  refine vc5 _ _ _ ?_
  refine ⟨hp.1, fun _ => hp.2, fun hc => ⟨trivial, ends_bool rfl rfl⟩, fun hc => ?_⟩
  have hs : stepsOk p = true ∧ stepsOk q = true := by
    revert hc
    cases stepsOk p <;> cases stepsOk q <;> simp
  obtain ⟨a1, a2, a3, a4⟩ := steps_ok hs.1
  obtain ⟨b1, b2, b3, b4⟩ := steps_ok hs.2
  have n1 := unitsF_len 1 p 0 a1.1
  have n2 := unitsF_len 2 q 0 b1.1
  have n3 := massOs_len p
  have n4 := massOs_len q
  obtain ⟨ok, l, m, e1, e2, e3, e4⟩ := pair_law 1 (Or.inl rfl) (p.length + q.length) p q [] (unitsF 0 1 p) (unitsF 0 2 q) [] (Nat.le_refl _) a2 b2 (vsL_units 1 p 0) (vsL_units 2 q 0)
  rw [e1, e2, e3]
  refine ⟨⟨a1, b1⟩, ⟨a1, by dsimp only; omega⟩, ⟨b1, by dsimp only; omega⟩, ⟨by dsimp only; omega, by dsimp only; omega⟩, fun _ => ?_, fun _ => trivial, ends_bool rfl ?_⟩
  · cases ok with
    | false => exact ⟨rfl, by simp, by simp⟩
    | true =>
      obtain ⟨g1, g2, g3⟩ := e4 rfl
      exact ⟨g1, by simp; omega, by simp; omega⟩
  · cases ok <;> simp

theorem c4 : Contract Try.prog cfg 4 spec4 := by
  refine make4 c22 c23 (c24 c65) ?_
  intro p q _ hp
  simp only [pre4] at hp
  refine vc4 _ _ _ ?_
  refine ⟨hp.1, fun _ => hp.2, fun hc => ⟨trivial, ends_bool rfl rfl⟩, fun hc => ?_⟩
  have hs : stepsOk p = true ∧ stepsOk q = true := by
    revert hc
    cases stepsOk p <;> cases stepsOk q <;> simp
  obtain ⟨a1, a2, a3, a4⟩ := steps_ok hs.1
  obtain ⟨b1, b2, b3, b4⟩ := steps_ok hs.2
  have n3 := massOs_len p
  have n4 := massOs_len q
  obtain ⟨ok, l, m, e1, e2, e3, e4⟩ := pair_law 2 (Or.inr rfl) (p.length + q.length) p q [] (unitsF 0 2 p) (unitsF 0 2 q) [] (Nat.le_refl _) a2 b2 (vsL_units 2 p 0) (vsL_units 2 q 0)
  rw [e1, e2]
  refine ⟨⟨a1, b1⟩, fun _ => by unfold InR; dsimp only; omega, fun _ => trivial, ends_bool rfl ?_⟩
  cases ok with
  | false => simp
  | true =>
    have := (e4 rfl).2.1
    simp
    omega

end Go.AM.Ytlahjnelghpmeaa
