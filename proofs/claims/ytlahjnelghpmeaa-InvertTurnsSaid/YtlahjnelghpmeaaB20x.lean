import Derived.Test.YtlahjnelghpmeaaL22m
import Derived.Test.YtlahjnelghpmeaaL22
import Derived.Test.YtlahjnelghpmeaaB20c
import Derived.Test.YtlahjnelghpmeaaD20
set_option linter.unusedSimpArgs false
set_option linter.unusedVariables false
namespace Go.AM.Ytlahjnelghpmeaa
open Go.AM Go.Proofs
theorem nrmE_kind (e : Edit) : (nrmE e).kind = e.kind := by
  rw [nrmE_at]
  split
  · rfl
  · split
    · rfl
    · split <;> rfl
theorem nrmE_old (e : Edit) (h : e.kind = 1) : (nrmE e).old = normT e.old ∧ (nrmE e).new = normT e.new := by
  rw [nrmE_at, if_pos h]
  exact ⟨rfl, rfl⟩
theorem rightT_one {list : Int} {t : Tree} (h : rightT (.mk list [] [t]) 64 = true) : rightT (.mk list [] [normT t]) 64 = true := by
  have key := fun (k d : Int) (h : rightK k [t] d = true) => rightK_norm [t] k d h
  simp only [normK] at key
  simp only [rightT] at h ⊢
  split at h
  · simp at h
  · rename_i h0
    rw [if_neg h0]
    split at h
    · simp at h
    · rename_i h1
      rw [if_neg h1]
      rw [if_neg (by decide)] at h ⊢
      split at h
      · rename_i h2
        rw [if_pos h2]
        simp only [Bool.and_eq_true] at h ⊢
        exact ⟨h.1, key _ _ h.2⟩
      · rename_i h2
        rw [if_neg h2]
        simp only [Bool.and_eq_true] at h ⊢
        exact ⟨h.1, key _ _ h.2⟩
theorem treesOk_norms {list : Int} : ∀ {l : List Tree}, treesOk list l = true → treesOk list (normsT l) = true
  | [], _ => rfl
  | t :: r, h => by
    simp only [treesOk, Bool.and_eq_true] at h
    have h2 := treesOk_norms h.2
    simp only [normsT] at h2
    simp only [normsT, List.map_cons, treesOk, Bool.and_eq_true]
    exact ⟨rightT_one h.1, h2⟩
theorem treesOk_app {list : Int} : ∀ {a b : List Tree}, treesOk list a = true → treesOk list b = true → treesOk list (a ++ b) = true
  | [], _, _, h => h
  | t :: r, b, h, h2 => by
    simp only [treesOk, Bool.and_eq_true] at h
    simp only [List.cons_append, treesOk, Bool.and_eq_true]
    exact ⟨h.1, treesOk_app h.2 h2⟩
def rOp (list : Int) (d : Int) (o : Op) : Prop := (o.kind = 0 → 1 ≤ o.n ∧ o.l.length = 0 ∧ sameE o.e = true) ∧ (o.kind ≠ 0 → rightOp list o d = true)
theorem rOp_of {list d : Int} {o : Op} (h : rightOp list o d = true) : rOp list d o := by
  refine ⟨fun hk => ?_, fun _ => h⟩
  obtain ⟨k, n, l, e⟩ := o
  simp only at hk
  subst hk
  simp only [rightOp, if_true, Bool.and_eq_true, decide_eq_true_eq] at h
  exact ⟨h.1.1, h.1.2.2, h.2⟩
theorem rOp_to {list d : Int} {o : Op} (h : rOp list d o) (hn : o.kind = 0 → o.n ≤ 1048576) : rightOp list o d = true := by
  by_cases hk : o.kind = 0
  · have h1 := h.1 hk
    have h2 := hn hk
    obtain ⟨k, n, l, e⟩ := o
    simp only at hk h1 h2
    subst hk
    simp only [rightOp, if_true, Bool.and_eq_true, decide_eq_true_eq]
    exact ⟨⟨h1.1, h2, h1.2.1⟩, h1.2.2⟩
  · exact h.2 hk
theorem rightOs_all {list : Int} : ∀ {os : List Op} {d : Int}, rightOs list os d = true ↔ ∀ o ∈ os, rightOp list o d = true
  | [], d => by simp [rightOs]
  | o :: r, d => by
    simp only [rightOs, Bool.and_eq_true, List.mem_cons, forall_eq_or_imp]
    rw [rightOs_all (os := r)]
theorem sameE_none : sameE Edit.nil = true := rfl
structure OkW (list d : Int) (w : Wst) : Prop where
  out : ∀ o ∈ w.out, rOp list d o
  gone : treesOk list w.gone = true
  brought : treesOk list w.brought = true
theorem okW_flush {list d : Int} {w : Wst} (h : OkW list d w) : OkW list d (flushW w) := by
  refine ⟨?_, rfl, rfl⟩
  simp only [flushW, flushO]
  intro o ho
  rcases List.mem_append.1 ho with ho | ho
  · exact h.out o ho
  rcases List.mem_append.1 ho with ho | ho
  · split at ho
    · cases ho
    · rename_i hl
      simp only [List.mem_singleton] at ho
      subst ho
      refine ⟨fun hk => (by cases hk), fun _ => ?_⟩
      simp only [rightOp]
      rw [if_neg (by decide), if_neg (by decide), if_pos (by decide), h.gone, sameE_none]
      simp only [Bool.and_true, Bool.true_and, decide_eq_true_eq]
      omega
  · split at ho
    · cases ho
    · rename_i hl
      simp only [List.mem_singleton] at ho
      subst ho
      refine ⟨fun hk => (by cases hk), fun _ => ?_⟩
      simp only [rightOp]
      rw [if_neg (by decide), if_neg (by decide), if_pos (by decide), h.brought, sameE_none]
      simp only [Bool.and_true, Bool.true_and, decide_eq_true_eq]
      omega
theorem okW_keep {list d : Int} {w : Wst} {n : Int} (h : OkW list d w) (hn : 1 ≤ n) : OkW list d (keepW w n) := by
  have hf := okW_flush h
  refine ⟨?_, rfl, rfl⟩
  simp only [keepW]
  intro o ho
  rcases keepO_cases (flushW w).out n with e | ⟨a, q, e1, e2, e3⟩
  · rw [e] at ho
    rcases List.mem_append.1 ho with ho | ho
    · exact hf.out o ho
    · simp only [List.mem_singleton] at ho
      subst ho
      exact ⟨fun _ => ⟨hn, rfl, sameE_none⟩, fun hk => absurd rfl hk⟩
  · rw [e3] at ho
    rcases List.mem_append.1 ho with ho | ho
    · exact hf.out o (by rw [e1]; exact List.mem_append.2 (Or.inl ho))
    · simp only [List.mem_singleton] at ho
      subst ho
      have hq := (hf.out q (by rw [e1]; simp)).1 e2
      exact ⟨fun _ => ⟨by simp only; omega, hq.2⟩, fun hk => absurd e2 hk⟩
theorem okW_op {list d : Int} {w : Wst} {o : Op} (h : OkW list d w) (hr : rightOp list o d = true) (hi : rightE o.e d = true → rightE (nrmE o.e) d = true) : OkW list d (nrmOp list o w) := by
  obtain ⟨k, n, l, e⟩ := o
  have hr0 := hr
  rw [rightOp] at hr
  rw [nrmOp_at]
  simp only at hi ⊢
  split at hr
  · rename_i hk
    rw [if_pos hk]
    simp only [Bool.and_eq_true, decide_eq_true_eq] at hr
    exact okW_keep h hr.1.1
  · rename_i hk
    rw [if_neg hk]
    split at hr
    · cases hr
    · rename_i hn
      split at hr
      · rename_i h3
        simp only [Bool.and_eq_true, decide_eq_true_eq] at hr
        by_cases k1 : k = 1
        · rw [if_pos k1]
          exact ⟨h.out, treesOk_app h.gone (treesOk_norms hr.1.1), h.brought⟩
        · rw [if_neg k1, if_pos (by omega)]
          exact ⟨h.out, h.gone, treesOk_app h.brought (treesOk_norms hr.1.1)⟩
      · rename_i h3
        rw [if_neg (by omega), if_neg (by omega), if_pos (by omega)]
        split
        · exact okW_keep h (by decide)
        · have hf := okW_flush h
          refine ⟨?_, rfl, rfl⟩
          intro o ho
          rcases List.mem_append.1 ho with ho | ho
          · exact hf.out o ho
          · simp only [List.mem_singleton] at ho
            subst ho
            refine ⟨fun hk => (by cases hk), fun _ => ?_⟩
            simp only [Bool.and_eq_true, decide_eq_true_eq] at hr
            simp only [rightOp]
            rw [if_neg (by decide), if_neg (by decide), if_neg (by decide), nrmE_kind, hi hr.1.2]
            simp only [Bool.and_true, Bool.and_eq_true, decide_eq_true_eq]
            refine ⟨⟨rfl, hr.1.1.2⟩, ?_⟩
            rcases hr.2 with h | h | h
            · exact Or.inl h
            · exact Or.inr (Or.inl h)
            · rw [(nrmE_old e h.1).1, (nrmE_old e h.1).2, kind_norm, kind_norm]
              exact Or.inr (Or.inr h)
def sumA : List Op → Int
  | [] => 0
  | o :: r => (if o.kind = 2 then 0 else opLen o) + sumA r
def sumB : List Op → Int
  | [] => 0
  | o :: r => (if o.kind = 1 then 0 else opLen o) + sumB r
theorem sumA_app : ∀ (a b : List Op), sumA (a ++ b) = sumA a + sumA b
  | [], b => by simp [sumA]
  | o :: r, b => by simp only [List.cons_append, sumA, sumA_app r b]; omega
theorem sumB_app : ∀ (a b : List Op), sumB (a ++ b) = sumB a + sumB b
  | [], b => by simp [sumB]
  | o :: r, b => by simp only [List.cons_append, sumB, sumB_app r b]; omega
theorem lenA_sum : ∀ (l : List Op) (n : Int), (∀ o ∈ l, 0 ≤ opLen o) → 0 ≤ n → n ≤ 1048576 → lenA l n = min (n + sumA l) 1048576 ∧ 0 ≤ sumA l
  | [], n, _, h1, h2 => by simp only [lenA, sumA]; omega
  | o :: r, n, h, h1, h2 => by
    have ho := h o (List.mem_cons_self ..)
    simp only [lenA, sumA]
    have hx : 0 ≤ (if o.kind = 2 then n else n + opLen o) ∧ (if o.kind = 2 then n else n + opLen o) = n + (if o.kind = 2 then 0 else opLen o) := by split <;> omega
    have hy : 0 ≤ (if o.kind = 2 then 0 else opLen o) := by split <;> omega
    rw [hx.2]
    rw [hx.2] at hx
    generalize (if o.kind = 2 then 0 else opLen o) = y at *
    obtain ⟨e1, e2⟩ := lenA_sum r (min (n + y) 1048576) (fun x hx => h x (List.mem_cons_of_mem _ hx)) (by omega) (by omega)
    rw [e1]
    omega
theorem lenB_sum : ∀ (l : List Op) (n : Int), (∀ o ∈ l, 0 ≤ opLen o) → 0 ≤ n → n ≤ 1048576 → lenB l n = min (n + sumB l) 1048576 ∧ 0 ≤ sumB l
  | [], n, _, h1, h2 => by simp only [lenB, sumB]; omega
  | o :: r, n, h, h1, h2 => by
    have ho := h o (List.mem_cons_self ..)
    simp only [lenB, sumB]
    have hx : 0 ≤ (if o.kind = 1 then n else n + opLen o) ∧ (if o.kind = 1 then n else n + opLen o) = n + (if o.kind = 1 then 0 else opLen o) := by split <;> omega
    have hy : 0 ≤ (if o.kind = 1 then 0 else opLen o) := by split <;> omega
    rw [hx.2]
    rw [hx.2] at hx
    generalize (if o.kind = 1 then 0 else opLen o) = y at *
    obtain ⟨e1, e2⟩ := lenB_sum r (min (n + y) 1048576) (fun x hx => h x (List.mem_cons_of_mem _ hx)) (by omega) (by omega)
    rw [e1]
    omega
theorem rOp_len {list d : Int} {o : Op} (h : rOp list d o) : 0 ≤ opLen o := by
  unfold opLen
  split
  · decide
  · by_cases hk : o.kind = 0
    · have := (h.1 hk).1; omega
    · have hr := h.2 hk
      obtain ⟨k, n, l, e⟩ := o
      simp only at hk ⊢
      rw [rightOp, if_neg hk] at hr
      split at hr
      · cases hr
      · omega
theorem sumA_mem : ∀ {l : List Op} {o : Op}, (∀ o ∈ l, 0 ≤ opLen o) → o ∈ l → o.kind ≠ 2 → opLen o ≤ sumA l
  | a :: r, o, h, ho, hk => by
    have hr := (lenA_sum r 0 (fun x hx => h x (List.mem_cons_of_mem _ hx)) (by decide) (by decide)).2
    have ha := h a (List.mem_cons_self ..)
    simp only [sumA]
    rcases List.mem_cons.1 ho with rfl | ho
    · rw [if_neg hk]; omega
    · have := sumA_mem (fun x hx => h x (List.mem_cons_of_mem _ hx)) ho hk
      split <;> omega
def sA (w : Wst) : Int := sumA w.out + w.gone.length
def sB (w : Wst) : Int := sumB w.out + w.brought.length
theorem sum_flush (w : Wst) : sumA (flushW w).out = sA w ∧ sumB (flushW w).out = sB w := by
  simp only [flushW, flushO, sA, sB, sumA_app, sumB_app]
  constructor
  · by_cases hg : w.gone.length = 0
    · rw [if_pos hg]
      by_cases hb : w.brought.length = 0
      · rw [if_pos hb]; simp [sumA]; omega
      · rw [if_neg hb]; simp [sumA]; omega
    · rw [if_neg hg]
      by_cases hb : w.brought.length = 0
      · rw [if_pos hb]; simp [sumA, opLen]
      · rw [if_neg hb]; simp [sumA, opLen]
  · by_cases hg : w.gone.length = 0
    · rw [if_pos hg]
      by_cases hb : w.brought.length = 0
      · rw [if_pos hb]; simp [sumB]; omega
      · rw [if_neg hb]; simp [sumB, opLen]
    · rw [if_neg hg]
      by_cases hb : w.brought.length = 0
      · rw [if_pos hb]; simp [sumB]; omega
      · rw [if_neg hb]; simp [sumB, opLen]
theorem sum_keep (w : Wst) (n : Int) : sA (keepW w n) = sA w + n ∧ sB (keepW w n) = sB w + n := by
  have hf := sum_flush w
  simp only [keepW]
  have e1 : ∀ x, sA ⟨x, [], []⟩ = sumA x := fun x => by simp [sA]
  have e2 : ∀ x, sB ⟨x, [], []⟩ = sumB x := fun x => by simp [sB]
  rw [e1, e2, ← hf.1, ← hf.2]
  rcases keepO_cases (flushW w).out n with e | ⟨a, q, e1, e2, e3⟩
  · rw [e, sumA_app, sumB_app]
    simp [sumA, sumB, opLen]
  · rw [e3, e1, sumA_app, sumB_app, sumA_app, sumB_app]
    simp only [sumA, sumB, opLen, e2]
    simp
    omega
theorem sum_op {list d : Int} {w : Wst} {o : Op} (hr : rightOp list o d = true) : sA (nrmOp list o w) = sA w + (if o.kind = 2 then 0 else opLen o) ∧ sB (nrmOp list o w) = sB w + (if o.kind = 1 then 0 else opLen o) := by
  have hl : ∀ l, ((normsT l).length : Int) = l.length := fun l => by simp [normsT]
  obtain ⟨k, n, l, e⟩ := o
  rw [rightOp] at hr
  rw [nrmOp_at]
  simp only [opLen]
  split at hr
  · rename_i hk
    subst hk
    rw [if_pos rfl]
    simp only [Bool.and_eq_true, decide_eq_true_eq] at hr
    have := sum_keep w n
    simp
    omega
  · rename_i hk
    rw [if_neg hk]
    split at hr
    · cases hr
    · rename_i hn
      split at hr
      · rename_i h3
        by_cases k1 : k = 1
        · subst k1
          rw [if_pos rfl]
          simp only [sA, sB, List.length_append]
          simp [hl]
          omega
        · have k2 : k = 2 := by omega
          subst k2
          rw [if_neg k1, if_pos rfl]
          simp only [sA, sB, List.length_append]
          simp [hl]
          omega
      · rename_i h3
        have k3 : k = 3 := by omega
        subst k3
        rw [if_neg (by omega), if_neg (by omega), if_pos rfl]
        split
        · have := sum_keep w 1
          simp
          omega
        · have := sum_flush w
          simp only [sA, sB, sumA_app, sumB_app, sumA, sumB, opLen] at this ⊢
          simp
          omega
mutual
theorem rightE_nrm : ∀ (e : Edit) (d : Int), rightE e d = true → rightE (nrmE e) d = true
  | .mk k o n w ks l os, d, h => by
    have h1 := rightKs_nrm ks
    have h2 := okW_nrm l os
    have h4 := sum_nrm l os
    rw [rightE] at h
    split at h
    · cases h
    · rename_i a
      split at h
      · cases h
      · rename_i b
        have nn : noneT Tree.nil = true := rfl
        by_cases k1 : k = 1
        · subst k1
          rw [if_pos rfl] at h
          have hl : l = 0 := by
            apply Classical.byContradiction
            intro hl
            exact b (.inr (.inr ⟨by decide, .inl hl⟩))
          simp only [Bool.and_eq_true, decide_eq_true_eq] at h
          rw [nrmE, if_pos rfl, rightE, if_neg a, if_neg (by simp [hl]), if_pos rfl]
          simp only [Bool.and_eq_true, decide_eq_true_eq]
          rw [kind_norm, kind_norm]
          exact ⟨⟨rightT_norm _ _ h.1.1, rightT_norm _ _ h.1.2⟩, h.2⟩
        · rw [if_neg k1] at h
          simp only [Bool.and_eq_true, decide_eq_true_eq] at h
          obtain ⟨⟨⟨⟨x1, x2⟩, x3⟩, x4⟩, x5⟩ := h
          rw [nrmE, if_neg k1]
          by_cases k2 : k = 2
          · have hl : l = 0 := by
              apply Classical.byContradiction
              intro hl
              exact b (.inr (.inr ⟨by omega, .inl hl⟩))
            rw [if_pos k2, rightE, if_neg a, if_neg (by simp [nn, hl, k2]), if_neg k1]
            simp only [Bool.and_eq_true, decide_eq_true_eq]
            exact ⟨⟨⟨⟨x1, h1 _ _ x2⟩, x3⟩, rfl⟩, by decide⟩
          · rw [if_neg k2]
            by_cases k3 : k = 3
            · rw [if_pos k3, rightE, if_neg a, if_neg (by simp [nn, k3]), if_neg k1]
              simp only [Bool.and_eq_true, decide_eq_true_eq]
              have hall := rightOs_all.1 x4
              obtain ⟨y1, y2⟩ := lenA_sum os 0 (fun o ho => rOp_len (rOp_of (hall o ho))) (by decide) (by decide)
              obtain ⟨z1, z2⟩ := lenB_sum os 0 (fun o ho => rOp_len (rOp_of (hall o ho))) (by decide) (by decide)
              have hw := h2 (d - 1) W0 x4 ⟨fun o ho => (by cases ho), rfl, rfl⟩
              have hs := h4 (d - 1) W0 x4
              have hff := okW_flush hw
              have hsf := sum_flush (nrmOs l os W0)
              have e0 : sA W0 = 0 ∧ sB W0 = 0 := ⟨rfl, rfl⟩
              have hA := lenA_sum (flushW (nrmOs l os W0)).out 0 (fun o ho => rOp_len (hff.out o ho)) (by decide) (by decide)
              have hB := lenB_sum (flushW (nrmOs l os W0)).out 0 (fun o ho => rOp_len (hff.out o ho)) (by decide) (by decide)
              refine ⟨⟨⟨⟨rfl, rfl⟩, x3⟩, rightOs_all.2 (fun o ho => rOp_to (hff.out o ho) (fun hk => ?_))⟩, ?_, ?_⟩
              · have hm := sumA_mem (fun o ho => rOp_len (hff.out o ho)) ho (by omega)
                unfold opLen at hm
                rw [if_neg (by omega)] at hm
                omega
              · show lenA (flushW (nrmOs l os W0)).out 0 < 1048576
                omega
              · show lenB (flushW (nrmOs l os W0)).out 0 < 1048576
                omega
            · have hl : l = 0 := by
                apply Classical.byContradiction
                intro hl
                exact b (.inr (.inr ⟨k3, .inl hl⟩))
              rw [if_neg k3, rightE, if_neg a, if_neg (by simp [nn, hl]), if_neg k1]
              simp only [Bool.and_eq_true, decide_eq_true_eq]
              exact ⟨⟨⟨⟨rfl, rfl⟩, x3⟩, rfl⟩, by decide⟩
theorem rightKs_nrm : ∀ (ks : List (KidOf Edit)) (last d : Int), rightKs last ks d = true → rightKs last (nrmKs ks) d = true
  | [], _, _, _ => rfl
  | k :: r, last, d, h => by
    simp only [rightKs, Bool.and_eq_true] at h
    have h1 := rightKid_nrm k last d h.1
    have h2 := rightKs_nrm r k.at_ d h.2
    simp only [nrmKs, rightKs, Bool.and_eq_true]
    exact ⟨h1, by rw [nrmKid_at]; exact h2⟩
theorem rightKid_nrm : ∀ (k : KidOf Edit) (last d : Int), rightKid last k d = true → rightKid last (nrmKid k) d = true
  | ⟨a, e⟩, last, d, h => by
    simp only [rightKid, Bool.and_eq_true] at h
    have h1 := rightE_nrm e d h.2
    simp only [nrmKid, rightKid, Bool.and_eq_true]
    rw [nrmE_kind]
    exact ⟨h.1, h1⟩
theorem okW_nrm (list : Int) : ∀ (os : List (OpOf Edit)) (d : Int) (w : Wst), rightOs list os d = true → OkW list d w → OkW list d (nrmOs list os w)
  | [], _, _, _, hw => hw
  | o :: r, d, w, h, hw => by
    simp only [rightOs, Bool.and_eq_true] at h
    have h1 := okW_nrmOp list o d w h.1 hw
    exact okW_nrm list r d _ h.2 h1
theorem okW_nrmOp (list : Int) : ∀ (o : OpOf Edit) (d : Int) (w : Wst), rightOp list o d = true → OkW list d w → OkW list d (nrmOp list o w)
  | ⟨k, n, l, e⟩, d, w, h, hw => okW_op (o := ⟨k, n, l, e⟩) hw h (fun he => rightE_nrm e d he)
theorem sum_nrm (list : Int) : ∀ (os : List (OpOf Edit)) (d : Int) (w : Wst), rightOs list os d = true → sA (nrmOs list os w) = sA w + sumA os ∧ sB (nrmOs list os w) = sB w + sumB os
  | [], _, _, _ => by simp [nrmOs, sumA, sumB]
  | o :: r, d, w, h => by
    simp only [rightOs, Bool.and_eq_true] at h
    have h1 := sum_op (w := w) h.1
    have h2 := sum_nrm list r d (nrmOp list o w) h.2
    simp only [nrmOs, sumA, sumB]
    omega
end
end Go.AM.Ytlahjnelghpmeaa

namespace Go.AM.Ytlahjnelghpmeaa
open Go.AM Go.Proofs
theorem good_in {e : Edit} (h : good e = true) : massE e ≤ 3000 ∧ rightE e 64 = true := by
  simp only [good, Bool.and_eq_true, decide_eq_true_eq] at h
  exact ⟨few_massE h.1.1, h.1.2⟩
end Go.AM.Ytlahjnelghpmeaa

namespace Go.AM.Ytlahjnelghpmeaa
open Go.AM Go.Proofs
abbrev TrG23a (p : Prop) : Prop := p → p
def args45 : ArgL (Edit × Unit) := (.cons (aEl .edit) .nil)
def pre45 (a : Edit × Unit) : Prop := massE a.1 ≤ 1000000 ∧ ∃ d, rightE a.1 d = true
noncomputable def res45 (a : Edit × Unit) : V U := .agg [.int .i64 (Edit.kind (nrmE (turnE a.1))), .int .i64 (Tree.kind (Edit.old (nrmE (turnE a.1)))), .slice (U := U) .u64 (Tree.words (Edit.old (nrmE (turnE a.1)))) .unk, .slice (U := U) .tree (Tree.kids (Edit.old (nrmE (turnE a.1)))) .unk, .int .i64 (Tree.kind (Edit.new (nrmE (turnE a.1)))), .slice (U := U) .u64 (Tree.words (Edit.new (nrmE (turnE a.1)))) .unk, .slice (U := U) .tree (Tree.kids (Edit.new (nrmE (turnE a.1)))) .unk, .slice (U := U) .wedit (Edit.words (nrmE (turnE a.1))) .unk, .slice (U := U) .kid (Edit.kids (nrmE (turnE a.1))) .unk, .int .i64 (Edit.list (nrmE (turnE a.1))), .slice (U := U) .op (Edit.ops (nrmE (turnE a.1))) .unk]
noncomputable def spec45 : Fs U := fs args45 (fun a => [pre45 a]) res45
def args44 : ArgL (Unit) := .nil
def pre44 (a : Unit) : Prop := True
noncomputable def res44 (a : Unit) : V U := .c (.bool true)
noncomputable def spec44 : Fs U := fs args44 (fun a => [pre44 a]) res44
noncomputable def know45 : List (FuncId × Fs U) := [(40, spec40), (79, spec79)]
def lv45 : Lives U := fun i => match i with
  | 0 => ([(1, []), (2, [])], [((.loc 1), []), ((.loc 2), [])])
  | 1 => ([(2, [])], [((.loc 2), [])])
  | _ => ([], [])
abbrev W45 (e : Edit) (Q : AExit → LSt U → Prop) := awp cfg (know know45) (drawOk cfg (know know45)) Try.f45.ntmps lv45 (cd Try.f45 []) (⟨[(0, .agg [.int .i64 (Edit.kind e), .int .i64 (Tree.kind (Edit.old e)), .slice (U := U) .u64 (Tree.words (Edit.old e)) .unk, .slice (U := U) .tree (Tree.kids (Edit.old e)) .unk, .int .i64 (Tree.kind (Edit.new e)), .slice (U := U) .u64 (Tree.words (Edit.new e)) .unk, .slice (U := U) .tree (Tree.kids (Edit.new e)) .unk, .slice (U := U) .wedit (Edit.words e) .unk, .slice (U := U) .kid (Edit.kids e) .unk, .int .i64 (Edit.list e), .slice (U := U) .op (Edit.ops e) .unk])], [], []⟩ : LSt U) Q
theorem vc45 (e : Edit) (Q : AExit → LSt U → Prop) (h : ∀ y_1, y_1 = (e) → ∀ y_2, y_2 = ((turnE y_1)) → (pre79 (y_1, ())) ∧ (pre40 (y_2, ())) ∧ (Q .ret (⟨[(2, .ptr (.loc 2) 0)], [((.loc 2), [.int .i64 (Edit.kind (nrmE y_2)), .int .i64 (Tree.kind (Edit.old (nrmE y_2))), .slice (U := U) .u64 (Tree.words (Edit.old (nrmE y_2))) .unk, .slice (U := U) .tree (Tree.kids (Edit.old (nrmE y_2))) .unk, .int .i64 (Tree.kind (Edit.new (nrmE y_2))), .slice (U := U) .u64 (Tree.words (Edit.new (nrmE y_2))) .unk, .slice (U := U) .tree (Tree.kids (Edit.new (nrmE y_2))) .unk, .slice (U := U) .wedit (Edit.words (nrmE y_2)) .unk, .slice (U := U) .kid (Edit.kids (nrmE y_2)) .unk, .int .i64 (Edit.list (nrmE y_2)), .slice (U := U) .op (Edit.ops (nrmE y_2)) .unk])], []⟩ : LSt U))) :
    W45 e Q := by
  have e_ : (W45 e Q) = (let y_1 := (reEdit e); let y_2 := (reEdit (turnE y_1)); ((pre79 (y_1, ())) ∧ (pre40 (y_2, ())) ∧ (Q .ret (⟨[(2, .ptr (.loc 2) 0)], [((.loc 2), [.int .i64 (Edit.kind (nrmE y_2)), .int .i64 (Tree.kind (Edit.old (nrmE y_2))), .slice (U := U) .u64 (Tree.words (Edit.old (nrmE y_2))) .unk, .slice (U := U) .tree (Tree.kids (Edit.old (nrmE y_2))) .unk, .int .i64 (Tree.kind (Edit.new (nrmE y_2))), .slice (U := U) .u64 (Tree.words (Edit.new (nrmE y_2))) .unk, .slice (U := U) .tree (Tree.kids (Edit.new (nrmE y_2))) .unk, .slice (U := U) .wedit (Edit.words (nrmE y_2)) .unk, .slice (U := U) .kid (Edit.kids (nrmE y_2)) .unk, .int .i64 (Edit.list (nrmE y_2)), .slice (U := U) .op (Edit.ops (nrmE y_2)) .unk])], []⟩ : LSt U)))) := by kernel_rfl
  exact e_.mpr (by intro y_1 y_2; have hh := h y_1 (reEdit_eq _) y_2 (reEdit_eq _); exact ⟨hh.1, hh.2.1, hh.2.2⟩)
def Body45 (e : Edit)  : Prop := awp cfg (know (know45)) (drawOk cfg (know (know45))) Try.f45.ntmps lv45 (cd Try.f45 []) (entry (args45.can (e, ())) []) (EndsQ cfg Try.f45.ntmps Try.f45.results.toList (res45 (e, ())) [])
theorem make45 (c40 : Contract Try.prog cfg 40 spec40) (c79 : Contract Try.prog cfg 79 spec79) (hb : ∀ (e : Edit) (_ : Unit), pre45 (e, ()) → Body45 e) : Contract Try.prog cfg 45 spec45 :=
  contract_flat (l := [(40, spec40), (79, spec79)]) cfgOk rfl (⟨c40, c79, trivial⟩) lv45 Try.func45 rfl rfl 1 (fun _ => rfl) (by decide) (fun ⟨e, _⟩ => hb e ())
noncomputable def know44 : List (FuncId × Fs U) := [(45, spec45)]
def lv44 : Lives U := fun i => match i with
  | 0 => ([], [])
  | 1 => ([(1, [])], [])
  | 2 => ([(2, [])], [((.loc 2), [])])
  | 3 => ([(0, [])], [])
  | _ => ([], [])
abbrev W44 (Q : AExit → LSt U → Prop) := awp cfg (know know44) (drawOk cfg (know know44)) Try.f44.ntmps lv44 (cd Try.f44 []) (⟨[], [], []⟩ : LSt U) Q
theorem vc44 (Q : AExit → LSt U → Prop) (h : ∀ y_1, y_1 = (Edit.mk 0 (Tree.mk 0 ([]) ([])) (Tree.mk 0 ([]) ([])) ([]) ([]) 0 ([])) → ∀ y_2, y_2 = (Edit.mk 3 (Tree.mk 0 ([]) ([])) (Tree.mk 0 ([]) ([])) ([]) ([]) 4 ([(OpOf.mk 2 0 ([(Tree.mk 10 ([1]) ([]))]) y_1 : Op), (OpOf.mk 0 1 ([]) y_1 : Op)])) → ∀ y_3, y_3 = (List.getD (Edit.ops (nrmE (turnE y_2))) (Int.toNat 0) Op.nil) → (pre45 (y_2, ())) ∧ ((((((Edit.ops (nrmE (turnE y_2))).length : Int) : Int) == 2) = true → (0 : Int) ≤ 0 ∧ 0 < ((Edit.ops (nrmE (turnE y_2))).length : Int)) ∧ ((bif ((((Edit.ops (nrmE (turnE y_2))).length : Int) : Int) == 2) then (((OpOf.kind y_3) : Int) == 1) else false) = true → (0 : Int) ≤ 1 ∧ 1 < ((Edit.ops (nrmE (turnE y_2))).length : Int)) ∧ (Q .ret (⟨[(0, .c (.bool (bif (bif ((((Edit.ops (nrmE (turnE y_2))).length : Int) : Int) == 2) then (((OpOf.kind y_3) : Int) == 1) else false) then (((OpOf.kind (List.getD (Edit.ops (nrmE (turnE y_2))) (Int.toNat 1) Op.nil)) : Int) == 0) else false)))], [], []⟩ : LSt U)))) :
    W44 Q := by
  have e_ : (W44 Q) = (let y_1 := (Edit.mk 0 (Tree.mk 0 ([]) ([])) (Tree.mk 0 ([]) ([])) ([]) ([]) 0 ([])); let y_2 := (Edit.mk 3 (Tree.mk 0 ([]) ([])) (Tree.mk 0 ([]) ([])) ([]) ([]) 4 ([(OpOf.mk 2 0 ([(Tree.mk 10 ([1]) ([]))]) y_1 : Op), (OpOf.mk 0 1 ([]) y_1 : Op)])); let y_3 := (List.getD (Edit.ops (nrmE (turnE y_2))) (Int.toNat 0) Op.nil); let zz1 := ((OpOf.kind y_3) == 1); let zz0 := ((((Edit.ops (nrmE (turnE y_2))).length : Int) : Int) == 2); (((pre45 (y_2, ())) ∧ ((TrG23a (zz0 = true)) ∧ (TrG23a (zz0 = true)) ∧ (zz0 = true → (0 : Int) ≤ 0 ∧ 0 < ((Edit.ops (nrmE (turnE y_2))).length : Int)) ∧ (TrG23a (zz0 = true)) ∧ (TrG23a (zz0 = true)) ∧ (TrG23a (zz0 = true)) ∧ ((TrG23a (zz0 = true))) ∧ (TrG23a ((bif zz0 then zz1 else false) = true)) ∧ (TrG23a ((bif zz0 then zz1 else false) = true)) ∧ ((bif zz0 then zz1 else false) = true → (0 : Int) ≤ 1 ∧ 1 < ((Edit.ops (nrmE (turnE y_2))).length : Int)) ∧ (TrG23a ((bif zz0 then zz1 else false) = true)) ∧ (TrG23a ((bif zz0 then zz1 else false) = true)) ∧ (TrG23a ((bif zz0 then zz1 else false) = true)) ∧ ((TrG23a ((bif zz0 then zz1 else false) = true))) ∧ (Q .ret (⟨[(0, .c (.bool (bif (bif zz0 then zz1 else false) then (((OpOf.kind (List.getD (Edit.ops (nrmE (turnE y_2))) (Int.toNat 1) Op.nil)) : Int) == 0) else false)))], [], []⟩ : LSt U)))))) := by kernel_rfl
  exact e_.mpr (by intro y_1 y_2 y_3; have hh := h y_1 rfl y_2 rfl y_3 rfl; exact ⟨hh.1, ⟨id, id, hh.2.1, id, id, id, (by generalize ((((Edit.ops (nrmE (turnE y_2))).length : Int) : Int) == 2) = b0; revert b0; decide), id, id, hh.2.2.1, id, id, id, (by generalize (((OpOf.kind y_3) : Int) == 1) = b0; generalize ((((Edit.ops (nrmE (turnE y_2))).length : Int) : Int) == 2) = b1; revert b0 b1; decide), hh.2.2.2⟩⟩)
def Body44  : Prop := awp cfg (know (know44)) (drawOk cfg (know (know44))) Try.f44.ntmps lv44 (cd Try.f44 []) (entry (args44.can (())) []) (EndsQ cfg Try.f44.ntmps Try.f44.results.toList (res44 (())) [])
theorem make44 (c45 : Contract Try.prog cfg 45 spec45) (hb : ∀ (_ : Unit), pre44 (()) → Body44 ) : Contract Try.prog cfg 44 spec44 :=
  contract_flat (l := [(45, spec45)]) cfgOk rfl (⟨c45, trivial⟩) lv44 Try.func44 rfl rfl 0 (fun _ => rfl) (by decide) (fun _ => hb  ())
end Go.AM.Ytlahjnelghpmeaa

namespace Go.AM.Ytlahjnelghpmeaa
open Go.AM Go.Proofs
mutual
theorem massE_turn : ∀ (e : Edit), massE (turnE e) = massE e
  | .mk k o n w ks l os => by
    have h1 := massKs_turn ks
    have h2 := massOs_turn os
    simp only [turnE, massE, List.length_map, turnOs_len, h1, h2]
    omega
theorem massKs_turn : ∀ (ks : List (KidOf Edit)), massKs (turnKs ks) = massKs ks
  | [] => rfl
  | k :: r => by
    have h1 := massKid_turn k
    have h2 := massKs_turn r
    simp only [turnKs, massKs, h1, h2]
theorem massKid_turn : ∀ (k : KidOf Edit), massKid (turnKid k) = massKid k
  | ⟨a, e⟩ => by
    have h := massE_turn e
    simp only [turnKid, massKid, h]
theorem massOs_turn : ∀ (os : List (OpOf Edit)), massOs (turnOs os) = massOs os
  | [] => rfl
  | o :: r => by
    have h1 := massOp_turn o
    have h2 := massOs_turn r
    simp only [turnOs, massOs, h1, h2]
theorem massOp_turn : ∀ (o : OpOf Edit), massOp (turnOp o) = massOp o
  | ⟨k, n, l, e⟩ => by
    have h := massE_turn e
    simp only [turnOp]
    split
    · rfl
    · split
      · rfl
      · split
        · simp only [massOp, h]
        · rfl
end
theorem c45 : Contract Try.prog cfg 45 spec45 := by
  refine make45 c40_76.1 c79_110.1 ?_
  intro e _ hp
  simp only [pre45] at hp
  obtain ⟨hm, d, hr⟩ := hp
  refine vc45 _ _ ?_
  rintro y1 hy1 y2 hy2
  subst hy1
  have h1 := massE_turn y1
  have h2 := rightE_turn _ _ hr
  rw [← hy2] at h1 h2
  refine ⟨by simp only [pre79]; omega, by simp only [pre40]; exact ⟨by omega, d, h2⟩, ?_⟩
  simp only [res45]
  rw [← hy2]
  (repeat' (first | exact trivial | exact rfl | apply And.intro))
theorem c44 : Contract Try.prog cfg 44 spec44 := by
  refine make44 c45 ?_
  intro _ _
  refine vc44 _ ?_
  rintro y1 hy1 y2 hy2 y3 hy3
  have e2 : Edit.ops (nrmE (turnE y2)) = [⟨1, 0, [Tree.mk 10 [1] []], Edit.nil⟩, ⟨0, 1, [], Edit.nil⟩] := by
    rw [hy2, hy1]
    rfl
  rw [e2] at hy3 ⊢
  have k3 : y3.kind = 1 := by rw [hy3]; rfl
  rw [k3]
  refine ⟨?_, ?_, ?_, ends_bool rfl rfl⟩
  · rw [hy2, hy1]
    simp only [pre45]
    exact ⟨by decide, 64, by rfl⟩
  all_goals simp
end Go.AM.Ytlahjnelghpmeaa

namespace Go.AM
def badAt (list : Int) : List Tree → Int → Int
  | [], _ => -1
  | t :: r, i => if rightT (Tree.mk list [] [t]) 64 = true then badAt list r (i + 1) else i
theorem badAt_iff (list : Int) : ∀ (l : List Tree) (i : Int), 0 ≤ i → (0 ≤ badAt list l i ↔ treesOk list l = false)
  | [], i, _ => by simp [badAt, treesOk]
  | t :: r, i, hi => by
    have ih := badAt_iff list r (i + 1) (by omega)
    rw [badAt, treesOk]
    by_cases h : rightT (Tree.mk list [] [t]) 64 = true
    · rw [if_pos h, h, Bool.true_and]; exact ih
    · rw [if_neg h]
      simp only [Bool.not_eq_true] at h
      rw [h, Bool.false_and]
      exact ⟨fun _ => rfl, fun _ => hi⟩
end Go.AM

namespace Go.AM
def widN (m : Nat) : Nat → Nat
  | 0 => 0
  | i + 1 => widN m i + if m / 2 ^ i % 2 = 1 then 255 * 2 ^ (8 * i) else 0
def widW : Nat → Nat → Nat
  | 0, _ => 0
  | k + 1, m => (if m % 2 = 1 then 255 else 0) + 256 * widW k (m / 2)
def pickW : Nat → Nat → Nat → Nat
  | 0, _, _ => 0
  | k + 1, a, m => (if m % 2 = 1 then a % 256 else 0) + 256 * pickW k (a / 256) (m / 2)
def mixW : Nat → Nat → Nat → Nat → Nat
  | 0, _, _, _ => 0
  | k + 1, a, b, m => (if m % 2 = 1 then b % 256 else a % 256) + 256 * mixW k (a / 256) (b / 256) (m / 2)
theorem and_split (x y u v : Nat) (hu : u < 256) (hv : v < 256) : (u + 256 * x) &&& (v + 256 * y) = (u &&& v) + 256 * (x &&& y) := by
  have h : u &&& v < 256 := Nat.and_lt_two_pow (n := 8) u hv
  apply Nat.eq_of_testBit_eq
  intro j
  rw [Nat.add_comm u, Nat.add_comm v, Nat.add_comm (u &&& v), Nat.testBit_and]
  rw [show (256 : Nat) = 2 ^ 8 from rfl, Nat.testBit_two_pow_mul_add _ hu, Nat.testBit_two_pow_mul_add _ hv, Nat.testBit_two_pow_mul_add _ h]
  split <;> rw [Nat.testBit_and]
theorem or_split (x y u v : Nat) (hu : u < 256) (hv : v < 256) : (u + 256 * x) ||| (v + 256 * y) = (u ||| v) + 256 * (x ||| y) := by
  have h : u ||| v < 256 := Nat.or_lt_two_pow (n := 8) hu hv
  apply Nat.eq_of_testBit_eq
  intro j
  rw [Nat.add_comm u, Nat.add_comm v, Nat.add_comm (u ||| v), Nat.testBit_or]
  rw [show (256 : Nat) = 2 ^ 8 from rfl, Nat.testBit_two_pow_mul_add _ hu, Nat.testBit_two_pow_mul_add _ hv, Nat.testBit_two_pow_mul_add _ h]
  split <;> rw [Nat.testBit_or]
theorem and_wide : ∀ (k a m : Nat), a &&& widW k m = pickW k a m
  | 0, a, m => by simp [widW, pickW]
  | k + 1, a, m => by
    have e : a = a % 256 + 256 * (a / 256) := by omega
    simp only [widW, pickW]
    rw [← and_wide k (a / 256) (m / 2)]
    have h : a &&& ((if m % 2 = 1 then 255 else 0) + 256 * widW k (m / 2)) = (a % 256 + 256 * (a / 256)) &&& ((if m % 2 = 1 then 255 else 0) + 256 * widW k (m / 2)) := by rw [← e]
    rw [h, and_split _ _ _ _ (by omega) (by split <;> omega)]
    congr 1
    split
    · have := Nat.and_two_pow_sub_one_eq_mod (a % 256) 8
      simp only [show (2 : Nat) ^ 8 - 1 = 255 from rfl, show (2 : Nat) ^ 8 = 256 from rfl, Nat.mod_mod] at this
      exact this
    · simp
theorem or_pick : ∀ (k a b m n : Nat), (∀ i < k, m / 2 ^ i % 2 + n / 2 ^ i % 2 = 1) → pickW k a n ||| pickW k b m = mixW k a b m
  | 0, a, b, m, n, _ => by simp [pickW, mixW]
  | k + 1, a, b, m, n, h => by
    simp only [pickW, mixW]
    have h0 := h 0 (by omega)
    simp only [Nat.pow_zero, Nat.div_one] at h0
    rw [or_split _ _ _ _ (by split <;> omega) (by split <;> omega), or_pick k (a / 256) (b / 256) (m / 2) (n / 2) (fun i hi => by
      have := h (i + 1) (by omega)
      rw [Nat.div_div_eq_div_mul, Nat.div_div_eq_div_mul]
      rw [Nat.pow_succ, Nat.mul_comm] at this
      exact this)]
    congr 1
    by_cases hm : m % 2 = 1
    · rw [if_pos hm, if_pos hm, if_neg (by omega)]; simp
    · rw [if_neg hm, if_neg hm, if_pos (by omega)]; simp
theorem widN_eq : ∀ m : Fin 256, widN m.1 8 = widW 8 m.1 := by decide +kernel
theorem widW_not : ∀ m : Fin 256, 2 ^ 64 - 1 - widW 8 m.1 = widW 8 (255 - m.1) := by decide +kernel
theorem bits_not : ∀ m : Fin 256, ∀ i : Fin 8, m.1 / 2 ^ i.1 % 2 + (255 - m.1) / 2 ^ i.1 % 2 = 1 := by decide +kernel
theorem widW_lt : ∀ m : Fin 256, widW 8 m.1 < 2 ^ 64 := by decide +kernel
theorem mix_bits (a b m : Nat) (hm : m < 256) : (a &&& (2 ^ 64 - 1 - widN m 8)) ||| (b &&& widN m 8) = mixW 8 a b m := by
  have h1 := widN_eq ⟨m, hm⟩
  have h2 := widW_not ⟨m, hm⟩
  simp only at h1 h2
  rw [h1, h2, and_wide, and_wide]
  exact or_pick 8 a b m (255 - m) (fun i hi => bits_not ⟨m, hm⟩ ⟨i, hi⟩)
def ofK : Nat → (Nat → Nat) → Nat
  | 0, _ => 0
  | k + 1, f => f 0 + 256 * ofK k (fun i => f (i + 1))
theorem ofK_congr : ∀ (k : Nat) {f g : Nat → Nat}, (∀ i, f i = g i) → ofK k f = ofK k g
  | 0, _, _, _ => rfl
  | k + 1, f, g, h => by simp only [ofK, h 0, ofK_congr k (fun i => h (i + 1))]
theorem mixW_of : ∀ (k a b m : Nat), mixW k a b m = ofK k (fun i => if m / 2 ^ i % 2 = 1 then b / 256 ^ i % 256 else a / 256 ^ i % 256)
  | 0, _, _, _ => rfl
  | k + 1, a, b, m => by
    simp only [mixW, ofK, Nat.pow_zero, Nat.div_one]
    rw [mixW_of k, ofK_congr k (g := fun i => if m / 2 ^ (i + 1) % 2 = 1 then b / 256 ^ (i + 1) % 256 else a / 256 ^ (i + 1) % 256) (fun i => ?_)]
    rw [Nat.div_div_eq_div_mul, Nat.div_div_eq_div_mul, Nat.div_div_eq_div_mul, Nat.pow_succ', Nat.pow_succ']
theorem mixW_mix (a b m : Nat) : ((mixW 8 a b m : Nat) : Int) = mix a b m := by
  have nm : ∀ i : Nat, named (m : Int) (i : Int) = decide (m / 2 ^ i % 2 = 1) := by
    intro i
    unfold named
    rw [decide_eq_decide, Int.toNat_natCast]
    have : ((m : Int) / 2 ^ i % 2 : Int) = ((m / 2 ^ i % 2 : Nat) : Int) := by rw [Int.natCast_emod, Int.natCast_ediv, Int.natCast_pow]; rfl
    rw [this]; omega
  have by_ : ∀ (x i : Nat), byteAt (x : Int) i = ((x / 256 ^ i % 256 : Nat) : Int) := by
    intro x i
    unfold byteAt
    rw [Int.natCast_emod, Int.natCast_ediv, Int.natCast_pow]
    rfl
  have mx : ∀ i : Nat, mixAt (a : Int) (b : Int) (m : Int) i = ((if m / 2 ^ i % 2 = 1 then b / 256 ^ i % 256 else a / 256 ^ i % 256 : Nat) : Int) := by
    intro i
    unfold mixAt
    rw [nm, by_, by_]
    by_cases h : m / 2 ^ i % 2 = 1
    · rw [decide_eq_true h, if_pos rfl, if_pos h]
    · rw [decide_eq_false h, if_neg Bool.false_ne_true, if_neg h]
  rw [mixW_of]
  generalize hf : (fun i => if m / 2 ^ i % 2 = 1 then b / 256 ^ i % 256 else a / 256 ^ i % 256) = f
  have hx : ∀ i, mixAt (a : Int) (b : Int) (m : Int) i = (f i : Int) := by intro i; rw [mx, ← hf]
  have e : ofK 8 f = f 0 + 256 * (f 1 + 256 * (f 2 + 256 * (f 3 + 256 * (f 4 + 256 * (f 5 + 256 * (f 6 + 256 * (f 7 + 256 * 0))))))) := rfl
  rw [e]
  simp only [mix, of8, hx]
  omega
def withinB (list : Int) (e : Edit) : Bool :=
  if (2 ≤ list ∧ list ≤ 7) ∨ e.kind = 0 then false else if list = 8 ∨ e.kind = 2 then true else decide (e.kind = 1 ∧ e.old.kind = 1 ∧ e.new.kind = 1)
end Go.AM

namespace Go.AM.Ytlahjnelghpmeaa
open Go.AM Go.Proofs
abbrev TrG20c (p : Prop) : Prop := p → p
noncomputable section
def args134 : ArgL (Int × Unit) := (.cons (aInt .u8) .nil)
def pre134 (a : Int × Unit) : Prop := 0 ≤ a.1 ∧ a.1 < 256
noncomputable def res134 (a : Int × Unit) : V U := .c (.int .u64 ((widN (a.1).toNat 8 : Nat) : Int))
noncomputable def spec134 : Fs U := fs args134 (fun a => [pre134 a]) res134
def args127 : ArgL (Int × Int × Int × Unit) := (.cons (aInt .u64) (.cons (aInt .u64) (.cons (aInt .u8) .nil)))
def pre127 (a : Int × Int × Int × Unit) : Prop := (0 ≤ a.1 ∧ a.1 < 18446744073709551616) ∧ (0 ≤ a.2.1 ∧ a.2.1 < 18446744073709551616) ∧ (0 ≤ a.2.2.1 ∧ a.2.2.1 < 256)
noncomputable def res127 (a : Int × Int × Int × Unit) : V U := .c (.int .u64 (mix a.1 a.2.1 a.2.2.1))
noncomputable def spec127 : Fs U := fs args127 (fun a => [pre127 a]) res127
def args119 : ArgL (Tree × Unit) := (.cons (aEl .tree) .nil)
def pre119 (a : Tree × Unit) : Prop := mass a.1 ≤ 1000000 ∧ rng a.1
noncomputable def res119 (a : Tree × Unit) : V U := .c (.bool (decide (Tree.kind a.1 ≠ 10) && rightT a.1 64))
noncomputable def spec119 : Fs U := fs args119 (fun a => [pre119 a]) res119
def args137 : ArgL (Int × Tree × Unit) := (.cons (aInt .i64) (.cons (aEl .tree) .nil))
def pre137 (a : Int × Tree × Unit) : Prop := mass a.2.1 ≤ 900000 ∧ rng a.2.1 ∧ isI a.1
noncomputable def res137 (a : Int × Tree × Unit) : V U := .c (.bool (rightT (Tree.mk a.1 [] [a.2.1]) 64))
noncomputable def spec137 : Fs U := fs args137 (fun a => [pre137 a]) res137
def args138 : ArgL (Int × Edit × Unit) := (.cons (aInt .i64) (.cons (aEl .edit) .nil))
def pre138 (a : Int × Edit × Unit) : Prop := True
noncomputable def res138 (a : Int × Edit × Unit) : V U := .c (.bool (withinB a.1 a.2.1))
noncomputable def spec138 : Fs U := fs args138 (fun a => [pre138 a]) res138
def args120 : ArgL (List WEdit × Unit) := (.cons (aSl .wedit) .nil)
def pre120 (a : List WEdit × Unit) : Prop := (a.1).length ≤ 1000000 ∧ ∀ x ∈ a.1, rngW x
noncomputable def res120 (a : List WEdit × Unit) : V U := .c (.bool (wordsOk (-1) a.1))
noncomputable def spec120 : Fs U := fs args120 (fun a => [pre120 a]) res120
noncomputable def know134 : List (FuncId × Fs U) := []
def lv134 : Lives U := fun i => match i with
  | 0 => ([(0, [])], [])
  | 1 => ([(0, []), (3, [])], [])
  | 2 => ([(0, []), (3, []), (5, [])], [])
  | 3 => ([(0, []), (3, []), (5, []), (6, [])], [])
  | 4 => ([(0, []), (3, []), (4, []), (5, [])], [])
  | 5 => ([(0, []), (3, []), (4, []), (5, []), (12, [])], [])
  | 6 => ([(0, []), (3, []), (5, [])], [])
  | 7 => ([(0, []), (3, []), (5, [])], [])
  | 8 => ([(2, [])], [])
  | _ => ([], [])
def head134_0 (m : Int) (x3 : Int) (x5 : Int) : LSt U := (⟨[(0, .c (.int .u8 m)), (3, .c (.int .u64 x3)), (5, .c (.int .i64 x5))], [], []⟩ : LSt U)
abbrev W134 (m : Int) (Q : AExit → LSt U → Prop) := awp cfg (know know134) (drawOk cfg (know know134)) Try.f134.ntmps lv134 (cd Try.f134 []) (⟨[(0, .c (.int .u8 m))], [], []⟩ : LSt U) Q
abbrev a134_G20c := awp cfg (know know134) (drawOk cfg (know know134)) Try.f134.ntmps lv134
abbrev s134_G20c := seqK cfg (know know134) (drawOk cfg (know know134)) Try.f134.ntmps lv134
theorem vc134 (m : Int) (Q : AExit → LSt U → Prop) (h : LoopWp (awp cfg (know know134) (drawOk cfg (know know134)) Try.f134.ntmps lv134 (cd Try.f134 [1, 1, 0, 1, 0, 0])) (head134_0 m 0 0) (AExit.inBlock 0 (seqK cfg (know know134) (drawOk cfg (know know134)) Try.f134.ntmps lv134 (cd Try.f134 [1, 1, 1]) Q))) :
    W134 m Q := by
  have e_ : (W134 m Q) = ((((LoopWp (a134_G20c (cd Try.f134 [1, 1, 0, 1, 0, 0])) (head134_0 m 0 0) (AExit.inBlock 0 (s134_G20c (cd Try.f134 [1, 1, 1]) Q)))))) := by kernel_rfl
  exact e_.mpr h
abbrev W134_l0 (m : Int) (x3 : Int) (x5 : Int) (N0 : LSt U → Prop) (Q : AExit → LSt U → Prop) := awp cfg (know know134) (drawOk cfg (know know134)) Try.f134.ntmps lv134 (cd Try.f134 [1, 1, 0, 1, 0, 0]) (head134_0 m x3 x5) (AExit.then N0 (AExit.inBlock 0 (seqK cfg (know know134) (drawOk cfg (know know134)) Try.f134.ntmps lv134 (cd Try.f134 [1, 1, 1]) Q)))
theorem vc134_l0 (m : Int) (x3 : Int) (x5 : Int) (N0 : LSt U → Prop) (Q : AExit → LSt U → Prop) (h : ((decide ((x5 : Int) < 8)) = true → ((0 : Int) ≤ x5) ∧ (((((IntKind.wrap .u8 (BitVec.ofInt (IntKind.bits .u8) (Int.fdiv m (2 ^ (min (Int.toNat x5) (IntKind.bits .u8)))) &&& BitVec.ofInt (IntKind.bits .u8) 1).toNat) : Int) == 1) = true → (InR ((8 : Int) * x5)) ∧ ((0 : Int) ≤ ((8 : Int) * x5)) ∧ ((InR ((x5 : Int) + 1)) ∧ (N0 (head134_0 m (IntKind.wrap .u64 (BitVec.ofInt (IntKind.bits .u64) x3 ||| BitVec.ofInt (IntKind.bits .u64) (IntKind.wrap .u64 ((255 : Int) * 2 ^ (min (Int.toNat ((8 : Int) * x5)) (IntKind.bits .u64))))).toNat) ((x5 : Int) + 1))))) ∧ ((((IntKind.wrap .u8 (BitVec.ofInt (IntKind.bits .u8) (Int.fdiv m (2 ^ (min (Int.toNat x5) (IntKind.bits .u8)))) &&& BitVec.ofInt (IntKind.bits .u8) 1).toNat) : Int) == 1) = false → (InR ((x5 : Int) + 1)) ∧ (N0 (head134_0 m x3 ((x5 : Int) + 1)))))) ∧ ((decide ((x5 : Int) < 8)) = false → Q .ret (⟨[(2, .c (.int .u64 x3))], [], []⟩ : LSt U))) :
    W134_l0 m x3 x5 N0 Q := by
  have e_ : (W134_l0 m x3 x5 N0 Q) = (let zz0 := (((IntKind.wrap .u8 (BitVec.ofInt (IntKind.bits .u8) (Int.fdiv m (2 ^ (min (Int.toNat x5) (IntKind.bits .u8)))) &&& BitVec.ofInt (IntKind.bits .u8) 1).toNat) : Int) == 1); (((decide ((x5 : Int) < 8)) = true → (((0 : Int) ≤ x5) ∧ ((zz0 = true → (InR ((8 : Int) * x5)) ∧ ((0 : Int) ≤ ((8 : Int) * x5)) ∧ ((InR ((x5 : Int) + 1)) ∧ (N0 (head134_0 m (IntKind.wrap .u64 (BitVec.ofInt (IntKind.bits .u64) x3 ||| BitVec.ofInt (IntKind.bits .u64) (IntKind.wrap .u64 ((255 : Int) * 2 ^ (min (Int.toNat ((8 : Int) * x5)) (IntKind.bits .u64))))).toNat) ((x5 : Int) + 1))))) ∧ (zz0 = false → (InR ((x5 : Int) + 1)) ∧ (N0 (head134_0 m x3 ((x5 : Int) + 1))))))) ∧ ((decide ((x5 : Int) < 8)) = false → (Q .ret (⟨[(2, .c (.int .u64 x3))], [], []⟩ : LSt U))))) := by kernel_rfl
  exact e_.mpr ⟨fun c_1 => ⟨(h.1 c_1).1, ⟨fun c_2 => ⟨((h.1 c_1).2.1 c_2).1, ((h.1 c_1).2.1 c_2).2.1, ⟨((h.1 c_1).2.1 c_2).2.2.1, ((h.1 c_1).2.1 c_2).2.2.2⟩⟩, fun c_2 => ⟨((h.1 c_1).2.2 c_2).1, ((h.1 c_1).2.2 c_2).2⟩⟩⟩, fun c_1 => (h.2 c_1)⟩
def Body134 (m : Int)  : Prop := awp cfg (know (know134)) (drawOk cfg (know (know134))) Try.f134.ntmps lv134 (cd Try.f134 []) (entry (args134.can (m, ())) []) (EndsQ cfg Try.f134.ntmps Try.f134.results.toList (res134 (m, ())) [])
theorem make134 (hb : ∀ (m : Int) (_ : Unit), pre134 (m, ()) → Body134 m) : Contract Try.prog cfg 134 spec134 :=
  contract_flat (l := []) cfgOk rfl (trivial) lv134 Try.func134 rfl rfl 1 (fun _ => rfl) (by decide) (fun ⟨m, _⟩ => hb m ())
noncomputable def know127 : List (FuncId × Fs U) := [(134, spec134)]
def lv127 : Lives U := fun i => match i with
  | 0 => ([(0, []), (1, []), (2, [])], [])
  | 1 => ([(6, [])], [])
  | _ => ([], [])
abbrev W127 (a : Int) (b : Int) (m : Int) (Q : AExit → LSt U → Prop) := awp cfg (know know127) (drawOk cfg (know know127)) Try.f127.ntmps lv127 (cd Try.f127 []) (⟨[(0, .c (.int .u64 a)), (1, .c (.int .u64 b)), (2, .c (.int .u8 m))], [], []⟩ : LSt U) Q
theorem vc127 (a : Int) (b : Int) (m : Int) (Q : AExit → LSt U → Prop) (h : (pre134 (m, ())) ∧ (pre134 (m, ())) ∧ (Q .ret (⟨[(6, .c (.int .u64 (IntKind.wrap .u64 (BitVec.ofInt (IntKind.bits .u64) (IntKind.wrap .u64 (BitVec.ofInt (IntKind.bits .u64) a &&& ~~~(BitVec.ofInt (IntKind.bits .u64) ((widN (m).toNat 8 : Nat) : Int))).toNat) ||| BitVec.ofInt (IntKind.bits .u64) (IntKind.wrap .u64 (BitVec.ofInt (IntKind.bits .u64) b &&& BitVec.ofInt (IntKind.bits .u64) ((widN (m).toNat 8 : Nat) : Int)).toNat)).toNat)))], [], []⟩ : LSt U))) :
    W127 a b m Q := by
  have e_ : (W127 a b m Q) = (type_of% h) := by kernel_rfl
  exact e_.mpr ⟨h.1, h.2.1, h.2.2⟩
def Body127 (a : Int) (b : Int) (m : Int)  : Prop := awp cfg (know (know127)) (drawOk cfg (know (know127))) Try.f127.ntmps lv127 (cd Try.f127 []) (entry (args127.can (a, b, m, ())) []) (EndsQ cfg Try.f127.ntmps Try.f127.results.toList (res127 (a, b, m, ())) [])
theorem make127 (c134 : Contract Try.prog cfg 134 spec134) (hb : ∀ (a : Int) (b : Int) (m : Int) (_ : Unit), pre127 (a, b, m, ()) → Body127 a b m) : Contract Try.prog cfg 127 spec127 :=
  contract_flat (l := [(134, spec134)]) cfgOk rfl (⟨c134, trivial⟩) lv127 Try.func127 rfl rfl 3 (fun _ => rfl) (by decide) (fun ⟨a, b, m, _⟩ => hb a b m ())
noncomputable def know119 : List (FuncId × Fs U) := [(46, spec46)]
def lv119 : Lives U := fun i => match i with
  | 0 => ([(1, [])], [((.loc 1), [])])
  | 1 => ([(2, [])], [])
  | _ => ([], [])
abbrev W119 (t : Tree) (Q : AExit → LSt U → Prop) := awp cfg (know know119) (drawOk cfg (know know119)) Try.f119.ntmps lv119 (cd Try.f119 []) (⟨[(0, .agg [.int .i64 (Tree.kind t), .slice (U := U) .u64 (Tree.words t) .unk, .slice (U := U) .tree (Tree.kids t) .unk])], [], []⟩ : LSt U) Q
theorem vc119 (t : Tree) (Q : AExit → LSt U → Prop) (h : ((((Tree.kind t) : Int) != 10) = true → pre46 ((Tree.mk (Tree.kind t) (Tree.words t) (Tree.kids t)), ())) ∧ (Q .ret (⟨[(2, .c (.bool (bif (((Tree.kind t) : Int) != 10) then (rightT (Tree.mk (Tree.kind t) (Tree.words t) (Tree.kids t)) 64) else false)))], [], []⟩ : LSt U))) :
    W119 t Q := by
  have e_ : (W119 t Q) = (((TrG20c (((Tree.kind t) != 10) = true)) ∧ (((Tree.kind t) != 10) = true → pre46 ((Tree.mk (Tree.kind t) (Tree.words t) (Tree.kids t)), ())) ∧ ((TrG20c (((Tree.kind t) != 10) = true))) ∧ (Q .ret (⟨[(2, .c (.bool (bif ((Tree.kind t) != 10) then (rightT (Tree.mk (Tree.kind t) (Tree.words t) (Tree.kids t)) 64) else false)))], [], []⟩ : LSt U)))) := by kernel_rfl
  exact e_.mpr ⟨id, h.1, (by generalize (((Tree.kind t) : Int) != 10) = b0; revert b0; decide), h.2⟩
def Body119 (t : Tree)  : Prop := awp cfg (know (know119)) (drawOk cfg (know (know119))) Try.f119.ntmps lv119 (cd Try.f119 []) (entry (args119.can (t, ())) []) (EndsQ cfg Try.f119.ntmps Try.f119.results.toList (res119 (t, ())) [])
theorem make119 (c46 : Contract Try.prog cfg 46 spec46) (hb : ∀ (t : Tree) (_ : Unit), pre119 (t, ()) → Body119 t) : Contract Try.prog cfg 119 spec119 :=
  contract_flat (l := [(46, spec46)]) cfgOk rfl (⟨c46, trivial⟩) lv119 Try.func119 rfl rfl 1 (fun _ => rfl) (by decide) (fun ⟨t, _⟩ => hb t ())
noncomputable def know137 : List (FuncId × Fs U) := [(46, spec46)]
def lv137 : Lives U := fun i => match i with
  | 0 => ([(0, []), (3, [])], [((.loc 3), [])])
  | 1 => ([(4, [])], [])
  | _ => ([], [])
abbrev W137 (list : Int) (t : Tree) (Q : AExit → LSt U → Prop) := awp cfg (know know137) (drawOk cfg (know know137)) Try.f137.ntmps lv137 (cd Try.f137 []) (⟨[(0, .c (.int .i64 list)), (1, .agg [.int .i64 (Tree.kind t), .slice (U := U) .u64 (Tree.words t) .unk, .slice (U := U) .tree (Tree.kids t) .unk])], [], []⟩ : LSt U) Q
theorem vc137 (list : Int) (t : Tree) (Q : AExit → LSt U → Prop) (h : (pre46 ((Tree.mk list ([]) ([(Tree.mk (Tree.kind t) (Tree.words t) (Tree.kids t))])), ())) ∧ (Q .ret (⟨[(4, .c (.bool (rightT (Tree.mk list ([]) ([(Tree.mk (Tree.kind t) (Tree.words t) (Tree.kids t))])) 64)))], [], []⟩ : LSt U))) :
    W137 list t Q := by
  have e_ : (W137 list t Q) = (type_of% h) := by kernel_rfl
  exact e_.mpr ⟨h.1, h.2⟩
def Body137 (list : Int) (t : Tree)  : Prop := awp cfg (know (know137)) (drawOk cfg (know (know137))) Try.f137.ntmps lv137 (cd Try.f137 []) (entry (args137.can (list, t, ())) []) (EndsQ cfg Try.f137.ntmps Try.f137.results.toList (res137 (list, t, ())) [])
theorem make137 (c46 : Contract Try.prog cfg 46 spec46) (hb : ∀ (list : Int) (t : Tree) (_ : Unit), pre137 (list, t, ()) → Body137 list t) : Contract Try.prog cfg 137 spec137 :=
  contract_flat (l := [(46, spec46)]) cfgOk rfl (⟨c46, trivial⟩) lv137 Try.func137 rfl rfl 2 (fun _ => rfl) (by decide) (fun ⟨list, t, _⟩ => hb list t ())
noncomputable def know138 : List (FuncId × Fs U) := [(49, spec49)]
def lv138 : Lives U := fun i => match i with
  | 0 => ([(0, []), (3, [])], [((.loc 3), [])])
  | 1 => ([(0, []), (3, []), (5, [])], [((.loc 3), [])])
  | 2 => ([(4, [])], [])
  | 3 => ([(3, []), (13, [])], [((.loc 3), [])])
  | 4 => ([(4, [])], [])
  | 5 => ([(4, [])], [])
  | _ => ([], [])
abbrev W138 (list : Int) (e : Edit) (Q : AExit → LSt U → Prop) := awp cfg (know know138) (drawOk cfg (know know138)) Try.f138.ntmps lv138 (cd Try.f138 []) (⟨[(0, .c (.int .i64 list)), (1, .agg [.int .i64 (Edit.kind e), .int .i64 (Tree.kind (Edit.old e)), .slice (U := U) .u64 (Tree.words (Edit.old e)) .unk, .slice (U := U) .tree (Tree.kids (Edit.old e)) .unk, .int .i64 (Tree.kind (Edit.new e)), .slice (U := U) .u64 (Tree.words (Edit.new e)) .unk, .slice (U := U) .tree (Tree.kids (Edit.new e)) .unk, .slice (U := U) .wedit (Edit.words e) .unk, .slice (U := U) .kid (Edit.kids e) .unk, .int .i64 (Edit.list e), .slice (U := U) .op (Edit.ops e) .unk])], [], []⟩ : LSt U) Q
theorem vc138 (list : Int) (e : Edit) (Q : AExit → LSt U → Prop) (h : (pre49 (list, ())) ∧ (((bif (decide (2 ≤ list ∧ list ≤ 7)) then true else (((Edit.kind e) : Int) == 0)) = true → Q .ret (⟨[(4, .c (.bool false))], [], []⟩ : LSt U)) ∧ ((bif (decide (2 ≤ list ∧ list ≤ 7)) then true else (((Edit.kind e) : Int) == 0)) = false → ((bif ((list : Int) == 8) then true else (((Edit.kind e) : Int) == 2)) = true → Q .ret (⟨[(4, .c (.bool true))], [], []⟩ : LSt U)) ∧ ((bif ((list : Int) == 8) then true else (((Edit.kind e) : Int) == 2)) = false → Q .ret (⟨[(4, .c (.bool (bif (bif (((Edit.kind e) : Int) == 1) then (((Tree.kind (Edit.old e)) : Int) == 1) else false) then (((Tree.kind (Edit.new e)) : Int) == 1) else false)))], [], []⟩ : LSt U))))) :
    W138 list e Q := by
  have e_ : (W138 list e Q) = (let zz2 := (bif ((list : Int) == 8) then true else ((Edit.kind e) == 2)); let zz1 := (decide (2 ≤ list ∧ list ≤ 7)); let zz0 := (bif ((Edit.kind e) == 1) then (((Tree.kind (Edit.old e)) : Int) == 1) else false); ((pre49 (list, ())) ∧ (TrG20c ((!zz1) = true)) ∧ (TrG20c ((!zz1) = true)) ∧ ((zz1 = false → (!zz1) = true)) ∧ (((bif zz1 then true else ((Edit.kind e) == 0)) = true → (Q .ret (⟨[(4, .c (.bool false))], [], []⟩ : LSt U))) ∧ ((bif zz1 then true else ((Edit.kind e) == 0)) = false → (TrG20c ((!((list : Int) == 8)) = true)) ∧ (TrG20c ((!((list : Int) == 8)) = true)) ∧ ((((list : Int) == 8) = false → (!((list : Int) == 8)) = true)) ∧ ((zz2 = true → (Q .ret (⟨[(4, .c (.bool true))], [], []⟩ : LSt U))) ∧ (zz2 = false → (TrG20c (((Edit.kind e) == 1) = true)) ∧ (TrG20c (((Edit.kind e) == 1) = true)) ∧ (TrG20c (((Edit.kind e) == 1) = true)) ∧ ((TrG20c (((Edit.kind e) == 1) = true))) ∧ (TrG20c (zz0 = true)) ∧ (TrG20c (zz0 = true)) ∧ (TrG20c (zz0 = true)) ∧ ((TrG20c (zz0 = true))) ∧ (Q .ret (⟨[(4, .c (.bool (bif zz0 then (((Tree.kind (Edit.new e)) : Int) == 1) else false)))], [], []⟩ : LSt U)))))))) := by kernel_rfl
  exact e_.mpr ⟨h.1, id, id, (by generalize (decide (2 ≤ list ∧ list ≤ 7)) = b0; revert b0; decide), ⟨fun c_3 => (h.2.1 c_3), fun c_3 => ⟨id, id, (by generalize ((list : Int) == 8) = b0; revert b0; decide), ⟨fun c_4 => ((h.2.2 c_3).1 c_4), fun c_4 => ⟨id, id, id, (by generalize (((Edit.kind e) : Int) == 1) = b0; revert b0; decide), id, id, id, (by generalize (((Tree.kind (Edit.old e)) : Int) == 1) = b0; generalize (((Edit.kind e) : Int) == 1) = b1; revert b0 b1; decide), ((h.2.2 c_3).2 c_4)⟩⟩⟩⟩⟩
def Body138 (list : Int) (e : Edit)  : Prop := awp cfg (know (know138)) (drawOk cfg (know (know138))) Try.f138.ntmps lv138 (cd Try.f138 []) (entry (args138.can (list, e, ())) []) (EndsQ cfg Try.f138.ntmps Try.f138.results.toList (res138 (list, e, ())) [])
theorem make138 (c49 : Contract Try.prog cfg 49 spec49) (hb : ∀ (list : Int) (e : Edit) (_ : Unit), pre138 (list, e, ()) → Body138 list e) : Contract Try.prog cfg 138 spec138 :=
  contract_flat (l := [(49, spec49)]) cfgOk rfl (⟨c49, trivial⟩) lv138 Try.func138 rfl rfl 2 (fun _ => rfl) (by decide) (fun ⟨list, e, _⟩ => hb list e ())
noncomputable def know120 : List (FuncId × Fs U) := [(127, spec127)]
def lv120 : Lives U := fun i => match i with
  | 0 => ([(0, [])], [])
  | 1 => ([(0, []), (5, []), (6, []), (7, [])], [])
  | 2 => ([(0, []), (5, []), (6, []), (7, []), (8, [])], [])
  | 3 => ([(0, []), (3, []), (4, []), (5, []), (6, []), (7, [])], [((.loc 4), [])])
  | 4 => ([(0, []), (4, []), (5, []), (6, []), (7, []), (39, [])], [((.loc 4), [])])
  | 5 => ([(2, [])], [])
  | 6 => ([(0, []), (5, []), (6, []), (7, []), (53, [])], [])
  | 7 => ([(2, [])], [])
  | 8 => ([(0, []), (5, []), (6, []), (7, [])], [])
  | 9 => ([(2, [])], [])
  | _ => ([], [])
def head120_0 (l : List WEdit) (x7 : Int) : LSt U := (⟨[(0, .c (.slice (U := U) .wedit l .unk)), (5, .c (.slice (U := U) .wedit l .unk)), (6, .c (.int .i64 (l.length : Int))), (7, .c (.int .i64 x7))], [], []⟩ : LSt U)
abbrev W120 (l : List WEdit) (Q : AExit → LSt U → Prop) := awp cfg (know know120) (drawOk cfg (know know120)) Try.f120.ntmps lv120 (cd Try.f120 []) (⟨[(0, .c (.slice (U := U) .wedit l .unk))], [], []⟩ : LSt U) Q
abbrev a120_G20c := awp cfg (know know120) (drawOk cfg (know know120)) Try.f120.ntmps lv120
abbrev s120_G20c := seqK cfg (know know120) (drawOk cfg (know know120)) Try.f120.ntmps lv120
theorem vc120 (l : List WEdit) (Q : AExit → LSt U → Prop) (h : LoopWp (awp cfg (know know120) (drawOk cfg (know know120)) Try.f120.ntmps lv120 (cd Try.f120 [1, 0, 1, 0, 0])) (head120_0 l 0) (AExit.inBlock 0 (seqK cfg (know know120) (drawOk cfg (know know120)) Try.f120.ntmps lv120 (cd Try.f120 [1, 1]) Q))) :
    W120 l Q := by
  have e_ : (W120 l Q) = (((LoopWp (a120_G20c (cd Try.f120 [1, 0, 1, 0, 0])) (head120_0 l 0) (AExit.inBlock 0 (s120_G20c (cd Try.f120 [1, 1]) Q))))) := by kernel_rfl
  exact e_.mpr h
abbrev W120_l0 (l : List WEdit) (x7 : Int) (N0 : LSt U → Prop) (Q : AExit → LSt U → Prop) := awp cfg (know know120) (drawOk cfg (know know120)) Try.f120.ntmps lv120 (cd Try.f120 [1, 0, 1, 0, 0]) (head120_0 l x7) (AExit.then N0 (AExit.inBlock 0 (seqK cfg (know know120) (drawOk cfg (know know120)) Try.f120.ntmps lv120 (cd Try.f120 [1, 1]) Q)))
theorem vc120_l0 (l : List WEdit) (x7 : Int) (N0 : LSt U → Prop) (Q : AExit → LSt U → Prop) (h : ∀ y_1, y_1 = (List.getD l (Int.toNat x7) (WEdit.mk 0 0 0 0)) → ∀ y_2, y_2 = (List.getD l (Int.toNat ((x7 : Int) - 1)) (WEdit.mk 0 0 0 0)) → ((decide ((x7 : Int) < (l.length : Int))) = true → ((0 : Int) ≤ x7 ∧ x7 < (l.length : Int)) ∧ ((((!(bif (decide (((WEdit.at_ y_1) : Int) < 0)) then true else (decide ((65535 : Int) ≤ (WEdit.at_ y_1))))) && (decide ((0 : Int) < x7))) = true → InR ((x7 : Int) - 1)) ∧ (((!(bif (decide (((WEdit.at_ y_1) : Int) < 0)) then true else (decide ((65535 : Int) ≤ (WEdit.at_ y_1))))) && (decide ((0 : Int) < x7))) = true → (0 : Int) ≤ ((x7 : Int) - 1) ∧ ((x7 : Int) - 1) < (l.length : Int)) ∧ (((bif (bif (bif (decide (((WEdit.at_ y_1) : Int) < 0)) then true else (decide ((65535 : Int) ≤ (WEdit.at_ y_1)))) then true else (bif (decide ((0 : Int) < x7)) then (decide (((WEdit.at_ y_1) : Int) ≤ (WEdit.at_ y_2))) else false)) then true else (((WEdit.mask y_1) : Int) == 0)) = true → Q .ret (⟨[(2, .c (.bool false))], [], []⟩ : LSt U)) ∧ ((bif (bif (bif (decide (((WEdit.at_ y_1) : Int) < 0)) then true else (decide ((65535 : Int) ≤ (WEdit.at_ y_1)))) then true else (bif (decide ((0 : Int) < x7)) then (decide (((WEdit.at_ y_1) : Int) ≤ (WEdit.at_ y_2))) else false)) then true else (((WEdit.mask y_1) : Int) == 0)) = false → (pre127 ((WEdit.old y_1), 0, (WEdit.mask y_1), ())) ∧ ((!(((mix (WEdit.old y_1) 0 (WEdit.mask y_1)) : Int) != 0)) = true → pre127 ((WEdit.new y_1), 0, (WEdit.mask y_1), ())) ∧ (((bif (((mix (WEdit.old y_1) 0 (WEdit.mask y_1)) : Int) != 0) then true else (((mix (WEdit.new y_1) 0 (WEdit.mask y_1)) : Int) != 0)) = true → Q .ret (⟨[(2, .c (.bool false))], [], []⟩ : LSt U)) ∧ ((bif (((mix (WEdit.old y_1) 0 (WEdit.mask y_1)) : Int) != 0) then true else (((mix (WEdit.new y_1) 0 (WEdit.mask y_1)) : Int) != 0)) = false → (InR ((x7 : Int) + 1)) ∧ (N0 (head120_0 l ((x7 : Int) + 1))))))))) ∧ ((decide ((x7 : Int) < (l.length : Int))) = false → Q .ret (⟨[(2, .c (.bool true))], [], []⟩ : LSt U))) :
    W120_l0 l x7 N0 Q := by
  have e_ : (W120_l0 l x7 N0 Q) = (let y_1 := (List.getD l (Int.toNat x7) (WEdit.mk 0 0 0 0)); let y_2 := (List.getD l (Int.toNat ((x7 : Int) - 1)) (WEdit.mk 0 0 0 0)); let zz5 := (((mix (WEdit.new y_1) 0 (WEdit.mask y_1)) : Int) != 0); let zz4 := (decide ((WEdit.at_ y_1) < 0)); let zz3 := (decide ((0 : Int) < x7)); let zz2 := (bif zz3 then (decide ((WEdit.at_ y_1) ≤ (WEdit.at_ y_2))) else false); let zz1 := (((mix (WEdit.old y_1) 0 (WEdit.mask y_1)) : Int) != 0); let zz0 := (bif zz4 then true else (decide ((65535 : Int) ≤ (WEdit.at_ y_1)))); (((decide ((x7 : Int) < (l.length : Int))) = true → ((0 : Int) ≤ x7 ∧ x7 < (l.length : Int)) ∧ ((TrG20c ((!zz4) = true)) ∧ (TrG20c ((!zz4) = true)) ∧ ((zz4 = false → (!zz4) = true)) ∧ (TrG20c ((!zz0) = true)) ∧ (TrG20c ((!zz0) = true)) ∧ (TrG20c (((!zz0) && zz3) = true)) ∧ (((!zz0) && zz3) = true → InR ((x7 : Int) - 1)) ∧ (TrG20c (((!zz0) && zz3) = true)) ∧ (TrG20c (((!zz0) && zz3) = true)) ∧ (((!zz0) && zz3) = true → (0 : Int) ≤ ((x7 : Int) - 1) ∧ ((x7 : Int) - 1) < (l.length : Int)) ∧ (TrG20c (((!zz0) && zz3) = true)) ∧ (TrG20c (((!zz0) && zz3) = true)) ∧ (TrG20c (((!zz0) && zz3) = true)) ∧ (TrG20c (((!zz0) && zz3) = true)) ∧ (TrG20c (((!zz0) && zz3) = true)) ∧ ((!zz0) = true → (True → (!zz0) = true)) ∧ ((!zz0) = true → (zz3 = true → ((!zz0) && zz3) = true)) ∧ ((zz0 = false → (!zz0) = true)) ∧ (TrG20c ((!(bif zz0 then true else zz2)) = true)) ∧ (TrG20c ((!(bif zz0 then true else zz2)) = true)) ∧ (((bif zz0 then true else zz2) = false → (!(bif zz0 then true else zz2)) = true)) ∧ (((bif (bif zz0 then true else zz2) then true else ((WEdit.mask y_1) == 0)) = true → (Q .ret (⟨[(2, .c (.bool false))], [], []⟩ : LSt U))) ∧ ((bif (bif zz0 then true else zz2) then true else ((WEdit.mask y_1) == 0)) = false → (pre127 ((WEdit.old y_1), 0, (WEdit.mask y_1), ())) ∧ (TrG20c ((!zz1) = true)) ∧ (TrG20c ((!zz1) = true)) ∧ (TrG20c ((!zz1) = true)) ∧ (TrG20c ((!zz1) = true)) ∧ ((!zz1) = true → pre127 ((WEdit.new y_1), 0, (WEdit.mask y_1), ())) ∧ (TrG20c ((!zz1) = true)) ∧ ((zz1 = false → (!zz1) = true)) ∧ (((bif zz1 then true else zz5) = true → (Q .ret (⟨[(2, .c (.bool false))], [], []⟩ : LSt U))) ∧ ((bif zz1 then true else zz5) = false → (InR ((x7 : Int) + 1)) ∧ (N0 (head120_0 l ((x7 : Int) + 1))))))))) ∧ ((decide ((x7 : Int) < (l.length : Int))) = false → (Q .ret (⟨[(2, .c (.bool true))], [], []⟩ : LSt U))))) := by kernel_rfl
  exact e_.mpr (by intro y_1 y_2; have hh := h y_1 rfl y_2 rfl; exact ⟨fun c_5 => ⟨(hh.1 c_5).1, ⟨id, id, (by generalize (decide (((WEdit.at_ y_1) : Int) < 0)) = b0; revert b0; decide), id, id, id, (hh.1 c_5).2.1, id, id, (hh.1 c_5).2.2.1, id, id, id, id, id, (by generalize (decide ((65535 : Int) ≤ (WEdit.at_ y_1))) = b0; generalize (decide (((WEdit.at_ y_1) : Int) < 0)) = b1; revert b0 b1; decide), (by generalize (decide ((65535 : Int) ≤ (WEdit.at_ y_1))) = b0; generalize (decide (((WEdit.at_ y_1) : Int) < 0)) = b1; generalize (decide ((0 : Int) < x7)) = b2; revert b0 b1 b2; decide), (by generalize (decide ((65535 : Int) ≤ (WEdit.at_ y_1))) = b0; generalize (decide (((WEdit.at_ y_1) : Int) < 0)) = b1; revert b0 b1; decide), id, id, (by generalize (decide (((WEdit.at_ y_1) : Int) ≤ (WEdit.at_ y_2))) = b0; generalize (decide ((65535 : Int) ≤ (WEdit.at_ y_1))) = b1; generalize (decide (((WEdit.at_ y_1) : Int) < 0)) = b2; generalize (decide ((0 : Int) < x7)) = b3; revert b0 b1 b2 b3; decide), ⟨fun c_6 => ((hh.1 c_5).2.2.2.1 c_6), fun c_6 => ⟨((hh.1 c_5).2.2.2.2 c_6).1, id, id, id, id, ((hh.1 c_5).2.2.2.2 c_6).2.1, id, (by generalize (((mix (WEdit.old y_1) 0 (WEdit.mask y_1)) : Int) != 0) = b0; revert b0; decide), ⟨fun c_7 => (((hh.1 c_5).2.2.2.2 c_6).2.2.1 c_7), fun c_7 => ⟨(((hh.1 c_5).2.2.2.2 c_6).2.2.2 c_7).1, (((hh.1 c_5).2.2.2.2 c_6).2.2.2 c_7).2⟩⟩⟩⟩⟩⟩, fun c_5 => (hh.2 c_5)⟩)
def Body120 (l : List WEdit)  : Prop := awp cfg (know (know120)) (drawOk cfg (know (know120))) Try.f120.ntmps lv120 (cd Try.f120 []) (entry (args120.can (l, ())) []) (EndsQ cfg Try.f120.ntmps Try.f120.results.toList (res120 (l, ())) [])
theorem make120 (c127 : Contract Try.prog cfg 127 spec127) (hb : ∀ (l : List WEdit) (_ : Unit), pre120 (l, ()) → Body120 l) : Contract Try.prog cfg 120 spec120 :=
  contract_flat (l := [(127, spec127)]) cfgOk rfl (⟨c127, trivial⟩) lv120 Try.func120 rfl rfl 1 (fun _ => rfl) (by decide) (fun ⟨l, _⟩ => hb l ())
end
end Go.AM.Ytlahjnelghpmeaa

namespace Go.AM.Ytlahjnelghpmeaa
open Go.AM Go.Proofs
theorem bit_of : ∀ n : Fin 256, ∀ i : Fin 8, IntKind.wrap .u8 (BitVec.ofInt (IntKind.bits .u8) (Int.fdiv (n.1 : Int) (2 ^ (min (Int.toNat (i.1 : Int)) (IntKind.bits .u8)))) &&& BitVec.ofInt (IntKind.bits .u8) 1).toNat = ((n.1 / 2 ^ i.1 % 2 : Nat) : Int) := by decide +kernel
theorem or_byte : ∀ n : Fin 256, ∀ i : Fin 8, IntKind.wrap .u64 (BitVec.ofInt (IntKind.bits .u64) ((widN n.1 i.1 : Nat) : Int) ||| BitVec.ofInt (IntKind.bits .u64) (IntKind.wrap .u64 (255 * 2 ^ (min (Int.toNat (8 * (i.1 : Int))) (IntKind.bits .u64))))).toNat = ((widN n.1 i.1 + 255 * 2 ^ (8 * i.1) : Nat) : Int) := by decide +kernel
theorem c134 : Contract Try.prog cfg 134 spec134 := by
  refine make134 ?_
  intro m _ hp
  simp only [pre134] at hp
  obtain ⟨n, rfl⟩ := Int.eq_ofNat_of_zero_le hp.1
  have hn : n < 256 := by omega
  refine vc134 _ _ ?_
  refine loop_rule (ι := Nat) (fun i => head134_0 n ((widN n i : Nat) : Int) i) (fun i => i ≤ 8) (fun i => 8 - i) 0 rfl (by omega) ?_
  intro i hi
  refine vc134_l0 _ _ _ _ _ ?_
  (simp only [vcS])
  refine ⟨fun hc => ⟨by omega, fun hq => ⟨by unfold InR; omega, by omega, by unfold InR; omega, i + 1, ?_, by omega, by omega⟩, fun hq => ⟨by unfold InR; omega, i + 1, ?_, by omega, by omega⟩⟩, fun hc => ?_⟩
  · have h1 := bit_of ⟨n, hn⟩ ⟨i, by omega⟩
    have h2 := or_byte ⟨n, hn⟩ ⟨i, by omega⟩
    simp only at h1 h2
    rw [h1] at hq
    rw [h2]
    have e : widN n (i + 1) = widN n i + 255 * 2 ^ (8 * i) := by simp only [widN]; rw [if_pos (by omega)]
    rw [e]
    rfl
  · have h1 := bit_of ⟨n, hn⟩ ⟨i, by omega⟩
    simp only at h1
    rw [h1] at hq
    have e : widN n (i + 1) = widN n i := by simp only [widN]; rw [if_neg (by omega)]; omega
    rw [e]
    rfl
  · have : i = 8 := by omega
    subst this
    exact ends_int rfl rfl
theorem ofInt_nat (a : Nat) (h : a < 2 ^ 64) : (BitVec.ofInt 64 (a : Int)).toNat = a := by
  rw [BitVec.toNat_ofInt]
  omega
theorem c127 : Contract Try.prog cfg 127 spec127 := by
  refine make127 c134 ?_
  intro a b m _ hp
  simp only [pre127] at hp
  obtain ⟨⟨a0, a1⟩, ⟨b0, b1⟩, m0, m1⟩ := hp
  obtain ⟨x, rfl⟩ := Int.eq_ofNat_of_zero_le a0
  obtain ⟨y, rfl⟩ := Int.eq_ofNat_of_zero_le b0
  obtain ⟨n, rfl⟩ := Int.eq_ofNat_of_zero_le m0
  have hn : n < 256 := by omega
  have hx : x < 2 ^ 64 := by omega
  have hy : y < 2 ^ 64 := by omega
  have hw := widW_lt ⟨n, hn⟩
  have hw2 := widN_eq ⟨n, hn⟩
  simp only at hw hw2
  rw [← hw2] at hw
  refine vc127 _ _ _ _ ?_
  refine ⟨⟨m0, m1⟩, ⟨m0, m1⟩, ends_int rfl ?_⟩
  have em : mix x y n = (((x &&& (2 ^ 64 - 1 - widN n 8)) ||| (y &&& widN n 8) : Nat) : Int) := by rw [← mixW_mix, ← mix_bits x y n hn]
  have e1 : (BitVec.ofInt 64 (x : Int) &&& ~~~(BitVec.ofInt 64 ((widN n 8 : Nat) : Int))).toNat = x &&& (2 ^ 64 - 1 - widN n 8) := by
    rw [BitVec.toNat_and, BitVec.toNat_not, ofInt_nat x hx, ofInt_nat _ hw]
  have e2 : (BitVec.ofInt 64 (y : Int) &&& BitVec.ofInt 64 ((widN n 8 : Nat) : Int)).toNat = y &&& widN n 8 := by
    rw [BitVec.toNat_and, ofInt_nat y hy, ofInt_nat _ hw]
  have l1 : x &&& (2 ^ 64 - 1 - widN n 8) < 2 ^ 64 := Nat.lt_of_le_of_lt Nat.and_le_left hx
  have l2 : y &&& widN n 8 < 2 ^ 64 := Nat.lt_of_le_of_lt Nat.and_le_left hy
  have l3 : (x &&& (2 ^ 64 - 1 - widN n 8)) ||| (y &&& widN n 8) < 2 ^ 64 := Nat.or_lt_two_pow l1 l2
  have key : IntKind.wrap .u64 ((BitVec.ofInt 64 (IntKind.wrap .u64 ((BitVec.ofInt 64 (x : Int) &&& ~~~(BitVec.ofInt 64 ((widN n 8 : Nat) : Int))).toNat : Int)) ||| BitVec.ofInt 64 (IntKind.wrap .u64 ((BitVec.ofInt 64 (y : Int) &&& BitVec.ofInt 64 ((widN n 8 : Nat) : Int)).toNat : Int))).toNat : Int) = mix x y n := by
    have w1 : ∀ k : Nat, k < 2 ^ 64 → IntKind.wrap .u64 (k : Int) = k := fun k hk => wrap_u64 (by omega) (by omega)
    rw [e1, e2, w1 _ l1, w1 _ l2, BitVec.toNat_or, ofInt_nat _ l1, ofInt_nat _ l2, w1 _ l3, em]
  exact key
theorem c119 : Contract Try.prog cfg 119 spec119 := by
  refine make119 c46 ?_
  intro t _ hp
  refine vc119 _ _ ?_
  (simp only [Tree.eta, Edit.eta, Tree.kind_mk, Tree.words_mk, Tree.kids_mk])
  refine ⟨fun _ => hp, ends_bool rfl ?_⟩
  rw [Bool.eq_iff_iff]
  (simp only [vcS])
theorem c137 : Contract Try.prog cfg 137 spec137 := by
  refine make137 c46 ?_
  intro list t _ hp
  simp only [pre137] at hp
  refine vc137 _ _ _ ?_
  (simp only [Tree.eta, Edit.eta, Tree.kind_mk, Tree.words_mk, Tree.kids_mk])
  refine ⟨⟨?_, ?_⟩, by (repeat' (first | exact trivial | exact rfl | apply And.intro))⟩
  · simp only [mass, massK, List.length_nil]; omega
  · simp only [rng, rngK]
    have hi := hp.2.2
    unfold isI at hi
    exact ⟨hi, by simp, hp.2.1, trivial⟩
theorem c138 : Contract Try.prog cfg 138 spec138 := by
  refine make138 c49 ?_
  intro list e _ hp
  refine vc138 _ _ _ ?_
  (simp only [vcS])
  refine ⟨trivial, fun h => ?_, fun h => ⟨fun h2 => ?_, fun h2 => ?_⟩⟩
  · exact ends_bool rfl (by show false = withinB list e; unfold withinB; rw [if_pos h])
  · exact ends_bool rfl (by show true = withinB list e; unfold withinB; rw [if_neg (by omega), if_pos h2])
  · refine ends_bool rfl ?_
    show _ = withinB list e
    unfold withinB
    rw [if_neg (by omega), if_neg (by omega), Bool.eq_iff_iff]
    (simp only [vcS])
    omega
theorem wordsOk_cons (last : Int) (w : WEdit) (r : List WEdit) : wordsOk last (w :: r) = (decide (last < w.at_ ∧ w.at_ ≤ 65534 ∧ w.mask ≠ 0) && withinW w.old w.mask && withinW w.new w.mask && wordsOk w.at_ r) := rfl
theorem c120 : Contract Try.prog cfg 120 spec120 := by
  refine make120 c127 ?_
  intro l _ hp
  simp only [pre120] at hp
  refine vc120 _ _ ?_
  refine loop_rule (ι := Int) (fun i => head120_0 l i) (fun i => 0 ≤ i ∧ i ≤ l.length ∧ (i ≠ 0 → 0 ≤ (l.getD (i - 1).toNat (WEdit.mk 0 0 0 0)).at_) ∧ wordsOk (if i = 0 then -1 else (l.getD (i - 1).toNat (WEdit.mk 0 0 0 0)).at_) (l.drop i.toNat) = wordsOk (-1) l) (fun i => ((l.length : Int) - i).toNat) 0 rfl ⟨by omega, by omega, by simp, by simp⟩ ?_
  rintro i ⟨h1, h2, hpos, h3⟩
  refine vc120_l0 _ _ _ _ ?_
  rintro y1 hy1 y2 hy2
  (simp only [vcS])
  refine ⟨fun hi => ?_, fun hi => ?_⟩
  · have hm := hp.2 _ (mem_getD (l := l) (i := i.toNat) (by omega) (WEdit.mk 0 0 0 0))
    rw [dropI h1 hi (WEdit.mk 0 0 0 0), wordsOk_cons] at h3
    rw [← hy1] at h3 hm
    rw [← hy2] at h3 hpos
    obtain ⟨r1, r2, r3, r4⟩ := hm
    unfold isW at r3 r4
    have hw : ∀ x : Int, withinW x y1.mask = decide (mix x 0 y1.mask = 0) := fun x => rfl
    refine ⟨⟨h1, hi⟩, fun _ => by unfold InR; omega, fun _ => ⟨by omega, by omega⟩, fun hq => ?_, fun hq => ⟨⟨r3, by dsimp only; omega, r2⟩, fun _ => ⟨r4, by dsimp only; omega, r2⟩, fun hz => ?_, fun hz => ⟨by unfold InR; omega, i + 1, rfl, ⟨by omega, by omega, fun _ => by rw [show i + 1 - 1 = i by omega, ← hy1]; omega, ?_⟩, by omega⟩⟩⟩
    · refine ends_bool rfl ?_
      show false = wordsOk (-1) l
      rw [← h3, decide_eq_false]
      · rfl
      · split <;> omega
    · refine ends_bool rfl ?_
      show false = wordsOk (-1) l
      rw [← h3, hw, hw]
      rcases hz with hz | hz
      · rw [decide_eq_false hz]; simp
      · rw [decide_eq_false hz]; simp
    · rw [if_neg (by omega), show i + 1 - 1 = i by omega, ← hy1, ← h3, hw, hw, decide_eq_true hz.1, decide_eq_true hz.2, decide_eq_true]
      · simp
      · split <;> omega
  · rw [List.drop_of_length_le (by omega)] at h3
    exact ends_bool rfl (by show true = wordsOk (-1) l; rw [← h3]; rfl)
end Go.AM.Ytlahjnelghpmeaa

namespace Go.AM.Ytlahjnelghpmeaa
open Go.AM Go.Proofs
noncomputable section
def args136 : ArgM (Tree × (Int × Unit) × Unit) := (.cons (aEl .tree) (.obj 0 (.cons (cInt .i64) .nil) .nil))
def pre136 (a : Tree × (Int × Unit) × Unit) : Prop := mass a.1 ≤ 900000 ∧ rng a.1 ∧ isI a.2.1.1
noncomputable def res136 (a : Tree × (Int × Unit) × Unit) : V U := .c (.bool (!(rightT (Tree.mk a.2.1.1 [] [a.1]) 64)))
noncomputable def resX136 (a : Tree × (Int × Unit) × Unit) : List (List (C U)) := [[.int .i64 a.2.1.1]]
noncomputable def spec136 : Fs U := fsX args136 (fun a => [pre136 a]) res136 resX136
def args139 : ArgM (List Tree × (Int × Unit) × Unit) := (.cons (aSl .tree) (.clo 136 0 (.cons (cInt .i64) .nil) .nil))
def pre139 (a : List Tree × (Int × Unit) × Unit) : Prop := massK a.1 ≤ 900000 ∧ rngK a.1 ∧ isI a.2.1.1
noncomputable def res139 (a : List Tree × (Int × Unit) × Unit) : V U := .c (.int .i64 (badAt a.2.1.1 a.1 0))
noncomputable def resX139 (a : List Tree × (Int × Unit) × Unit) : List (List (C U)) := [[.int .i64 a.2.1.1]]
noncomputable def spec139 : Fs U := fsX args139 (fun a => [pre139 a]) res139 resX139
def args135 : ArgM (List Tree × (Int × Unit) × Unit) := (.cons (aSl .tree) (.clo 136 0 (.cons (cInt .i64) .nil) .nil))
def pre135 (a : List Tree × (Int × Unit) × Unit) : Prop := massK a.1 ≤ 900000 ∧ rngK a.1 ∧ isI a.2.1.1
noncomputable def res135 (a : List Tree × (Int × Unit) × Unit) : V U := .c (.bool (!(treesOk a.2.1.1 a.1)))
noncomputable def resX135 (a : List Tree × (Int × Unit) × Unit) : List (List (C U)) := [[.int .i64 a.2.1.1]]
noncomputable def spec135 : Fs U := fsX args135 (fun a => [pre135 a]) res135 resX135
noncomputable def know136 : List (FuncId × Fs U) := [(137, spec137)]
def lv136 : Lives U := fun i => match i with
  | 0 => ([(1, []), (2, [])], [((.loc 2), []), ((.x 0), [])])
  | 1 => ([(3, [])], [((.x 0), [])])
  | _ => ([], [])
abbrev W136 (t : Tree) (list : Int) (Q : AExit → LSt U → Prop) := awp cfg (know know136) (drawOk cfg (know know136)) Try.f136.ntmps lv136 (cd Try.f136 []) (⟨[(0, .agg [.int .i64 (Tree.kind t), .slice (U := U) .u64 (Tree.words t) .unk, .slice (U := U) .tree (Tree.kids t) .unk]), (1, .ptr (.x 0) 0)], [((.x 0), [.int .i64 list])], []⟩ : LSt U) Q
theorem vc136 (t : Tree) (list : Int) (Q : AExit → LSt U → Prop) (h : (pre137 (list, (Tree.mk (Tree.kind t) (Tree.words t) (Tree.kids t)), ())) ∧ (Q .ret (⟨[(3, .c (.bool (!(rightT (Tree.mk list [] [(Tree.mk (Tree.kind t) (Tree.words t) (Tree.kids t))]) 64))))], [((.x 0), [.int .i64 list])], []⟩ : LSt U))) :
    W136 t list Q := by
  have e_ : (W136 t list Q) = (type_of% h) := by kernel_rfl
  exact e_.mpr ⟨h.1, h.2⟩
def Body136 (t : Tree) (list : Int)  : Prop := awp cfg (know (know136)) (drawOk cfg (know (know136))) Try.f136.ntmps lv136 (cd Try.f136 []) (entry (args136.can (t, (list, ()), ())) (args136.canX (t, (list, ()), ()))) (EndsQ cfg Try.f136.ntmps Try.f136.results.toList (res136 (t, (list, ()), ())) (resX136 (t, (list, ()), ())))
theorem make136 (c137 : Contract Try.prog cfg 137 spec137) (hb : ∀ (t : Tree) (list : Int) (_ : Unit), pre136 (t, (list, ()), ()) → Body136 t list) : Contract Try.prog cfg 136 spec136 :=
  contractX_flat (l := [(137, spec137)]) cfgOk rfl (⟨c137, trivial⟩) lv136 Try.func136 rfl rfl 2 (fun _ => rfl) (by decide) (fun ⟨t, ⟨list, _⟩, _⟩ => hb t list ())
noncomputable def know139 : List (FuncId × Fs U) := [(136, spec136)]
def lv139 : Lives U := fun i => match i with
  | 0 => ([(0, []), (1, [])], [((.x 0), [])])
  | 1 => ([(0, []), (1, []), (7, []), (8, [])], [((.x 0), [])])
  | 2 => ([(0, []), (1, []), (7, []), (8, []), (9, [])], [((.x 0), [])])
  | 3 => ([(0, []), (1, []), (5, []), (7, []), (8, [])], [((.x 0), [])])
  | 4 => ([(0, []), (1, []), (5, []), (7, []), (8, []), (16, [])], [((.x 0), [])])
  | 5 => ([(4, [])], [((.x 0), [])])
  | 6 => ([(0, []), (1, []), (7, []), (8, [])], [((.x 0), [])])
  | 7 => ([(4, [])], [((.x 0), [])])
  | _ => ([], [])
def head139_0 (l : List Tree) (list : Int) (x8 : Int) : LSt U := (⟨[(0, .c (.slice (U := U) .tree l .unk)), (1, .clo 136 [(.x 0)]), (7, .c (.int .i64 (l.length : Int))), (8, .c (.int .i64 x8))], [((.x 0), [.int .i64 list])], []⟩ : LSt U)
abbrev W139 (l : List Tree) (list : Int) (Q : AExit → LSt U → Prop) := awp cfg (know know139) (drawOk cfg (know know139)) Try.f139.ntmps lv139 (cd Try.f139 []) (⟨[(0, .c (.slice (U := U) .tree l .unk)), (1, .clo 136 [(.x 0)])], [((.x 0), [.int .i64 list])], []⟩ : LSt U) Q
abbrev a139_G20y := awp cfg (know know139) (drawOk cfg (know know139)) Try.f139.ntmps lv139
abbrev s139_G20y := seqK cfg (know know139) (drawOk cfg (know know139)) Try.f139.ntmps lv139
theorem vc139 (l : List Tree) (list : Int) (Q : AExit → LSt U → Prop) (h : LoopWp (awp cfg (know know139) (drawOk cfg (know know139)) Try.f139.ntmps lv139 (cd Try.f139 [1, 0, 1, 0, 0])) (head139_0 l list 0) (AExit.inBlock 0 (seqK cfg (know know139) (drawOk cfg (know know139)) Try.f139.ntmps lv139 (cd Try.f139 [1, 1]) Q))) :
    W139 l list Q := by
  have e_ : (W139 l list Q) = (((LoopWp (a139_G20y (cd Try.f139 [1, 0, 1, 0, 0])) (head139_0 l list 0) (AExit.inBlock 0 (s139_G20y (cd Try.f139 [1, 1]) Q))))) := by kernel_rfl
  exact e_.mpr h
abbrev W139_l0 (l : List Tree) (list : Int) (x8 : Int) (N0 : LSt U → Prop) (Q : AExit → LSt U → Prop) := awp cfg (know know139) (drawOk cfg (know know139)) Try.f139.ntmps lv139 (cd Try.f139 [1, 0, 1, 0, 0]) (head139_0 l list x8) (AExit.then N0 (AExit.inBlock 0 (seqK cfg (know know139) (drawOk cfg (know know139)) Try.f139.ntmps lv139 (cd Try.f139 [1, 1]) Q)))
theorem vc139_l0 (l : List Tree) (list : Int) (x8 : Int) (N0 : LSt U → Prop) (Q : AExit → LSt U → Prop) (h : ((decide ((x8 : Int) < (l.length : Int))) = true → ((0 : Int) ≤ x8 ∧ x8 < (l.length : Int)) ∧ (pre136 ((Tree.mk (Tree.kind (List.getD l (Int.toNat x8) Tree.nil)) (Tree.words (List.getD l (Int.toNat x8) Tree.nil)) (Tree.kids (List.getD l (Int.toNat x8) Tree.nil))), (list, ()), ())) ∧ (((!(rightT (Tree.mk list [] [(Tree.mk (Tree.kind (List.getD l (Int.toNat x8) Tree.nil)) (Tree.words (List.getD l (Int.toNat x8) Tree.nil)) (Tree.kids (List.getD l (Int.toNat x8) Tree.nil)))]) 64)) = true → Q .ret (⟨[(4, .c (.int .i64 x8))], [((.x 0), [.int .i64 list])], []⟩ : LSt U)) ∧ ((!(rightT (Tree.mk list [] [(Tree.mk (Tree.kind (List.getD l (Int.toNat x8) Tree.nil)) (Tree.words (List.getD l (Int.toNat x8) Tree.nil)) (Tree.kids (List.getD l (Int.toNat x8) Tree.nil)))]) 64)) = false → (InR ((x8 : Int) + 1)) ∧ (N0 (head139_0 l list ((x8 : Int) + 1)))))) ∧ ((decide ((x8 : Int) < (l.length : Int))) = false → Q .ret (⟨[(4, .c (.int .i64 (-1)))], [((.x 0), [.int .i64 list])], []⟩ : LSt U))) :
    W139_l0 l list x8 N0 Q := by
  have e_ : (W139_l0 l list x8 N0 Q) = (let zz0 := (!(rightT (Tree.mk list [] [(Tree.mk (Tree.kind (List.getD l (Int.toNat x8) Tree.nil)) (Tree.words (List.getD l (Int.toNat x8) Tree.nil)) (Tree.kids (List.getD l (Int.toNat x8) Tree.nil)))]) 64)); (((decide ((x8 : Int) < (l.length : Int))) = true → (((0 : Int) ≤ x8 ∧ x8 < (l.length : Int)) ∧ (pre136 ((Tree.mk (Tree.kind (List.getD l (Int.toNat x8) Tree.nil)) (Tree.words (List.getD l (Int.toNat x8) Tree.nil)) (Tree.kids (List.getD l (Int.toNat x8) Tree.nil))), (list, ()), ())) ∧ ((zz0 = true → (Q .ret (⟨[(4, .c (.int .i64 x8))], [((.x 0), [.int .i64 list])], []⟩ : LSt U))) ∧ (zz0 = false → (InR ((x8 : Int) + 1)) ∧ (N0 (head139_0 l list ((x8 : Int) + 1))))))) ∧ ((decide ((x8 : Int) < (l.length : Int))) = false → (Q .ret (⟨[(4, .c (.int .i64 (-1)))], [((.x 0), [.int .i64 list])], []⟩ : LSt U))))) := by kernel_rfl
  exact e_.mpr ⟨fun c_1 => ⟨(h.1 c_1).1, (h.1 c_1).2.1, ⟨fun c_2 => ((h.1 c_1).2.2.1 c_2), fun c_2 => ⟨((h.1 c_1).2.2.2 c_2).1, ((h.1 c_1).2.2.2 c_2).2⟩⟩⟩, fun c_1 => (h.2 c_1)⟩
def Body139 (l : List Tree) (list : Int)  : Prop := awp cfg (know (know139)) (drawOk cfg (know (know139))) Try.f139.ntmps lv139 (cd Try.f139 []) (entry (args139.can (l, (list, ()), ())) (args139.canX (l, (list, ()), ()))) (EndsQ cfg Try.f139.ntmps Try.f139.results.toList (res139 (l, (list, ()), ())) (resX139 (l, (list, ()), ())))
theorem make139 (c136 : Contract Try.prog cfg 136 spec136) (hb : ∀ (l : List Tree) (list : Int) (_ : Unit), pre139 (l, (list, ()), ()) → Body139 l list) : Contract Try.prog cfg 139 spec139 :=
  contractX_flat (l := [(136, spec136)]) cfgOk rfl (⟨c136, trivial⟩) lv139 Try.func139 rfl rfl 2 (fun _ => rfl) (by decide) (fun ⟨l, ⟨list, _⟩, _⟩ => hb l list ())
noncomputable def know135 : List (FuncId × Fs U) := [(139, spec139)]
def lv135 : Lives U := fun i => match i with
  | 0 => ([(0, []), (1, [])], [((.x 0), [])])
  | 1 => ([(4, [])], [((.x 0), [])])
  | _ => ([], [])
abbrev W135 (l : List Tree) (list : Int) (Q : AExit → LSt U → Prop) := awp cfg (know know135) (drawOk cfg (know know135)) Try.f135.ntmps lv135 (cd Try.f135 []) (⟨[(0, .c (.slice (U := U) .tree l .unk)), (1, .clo 136 [(.x 0)])], [((.x 0), [.int .i64 list])], []⟩ : LSt U) Q
theorem vc135 (l : List Tree) (list : Int) (Q : AExit → LSt U → Prop) (h : (pre139 (l, (list, ()), ())) ∧ (Q .ret (⟨[(4, .c (.bool (decide ((0 : Int) ≤ (badAt list l 0)))))], [((.x 0), [.int .i64 list])], []⟩ : LSt U))) :
    W135 l list Q := by
  have e_ : (W135 l list Q) = (type_of% h) := by kernel_rfl
  exact e_.mpr ⟨h.1, h.2⟩
def Body135 (l : List Tree) (list : Int)  : Prop := awp cfg (know (know135)) (drawOk cfg (know (know135))) Try.f135.ntmps lv135 (cd Try.f135 []) (entry (args135.can (l, (list, ()), ())) (args135.canX (l, (list, ()), ()))) (EndsQ cfg Try.f135.ntmps Try.f135.results.toList (res135 (l, (list, ()), ())) (resX135 (l, (list, ()), ())))
theorem make135 (c139 : Contract Try.prog cfg 139 spec139) (hb : ∀ (l : List Tree) (list : Int) (_ : Unit), pre135 (l, (list, ()), ()) → Body135 l list) : Contract Try.prog cfg 135 spec135 :=
  contractX_flat (l := [(139, spec139)]) cfgOk rfl (⟨c139, trivial⟩) lv135 Try.func135 rfl rfl 2 (fun _ => rfl) (by decide) (fun ⟨l, ⟨list, _⟩, _⟩ => hb l list ())
end
end Go.AM.Ytlahjnelghpmeaa

namespace Go.AM.Ytlahjnelghpmeaa
open Go.AM Go.Proofs
theorem c136 : Contract Try.prog cfg 136 spec136 := by
  refine make136 c137 ?_
  intro t list _ hp
  simp only [pre136] at hp
  refine vc136 _ _ _ ?_
  (simp only [Tree.eta, Edit.eta, Tree.kind_mk, Tree.words_mk, Tree.kids_mk])
  refine ⟨by simp only [pre137]; exact hp, ?_⟩
  simp only [res136, resX136]
  (repeat' (first | exact trivial | exact rfl | apply And.intro))
theorem badAt_drop {list : Int} {l : List Tree} : ∀ (i : Nat), (∀ t ∈ l.take i, rightT (Tree.mk list [] [t]) 64 = true) → i ≤ l.length → badAt list l 0 = badAt list (l.drop i) i
  | 0, _, _ => by simp
  | i + 1, h, hi => by
    have ih := badAt_drop i (fun t ht => h t (by rw [List.take_add_one]; exact List.mem_append.2 (Or.inl ht))) (by omega)
    rw [ih]
    have e : l.drop i = l.getD i Tree.nil :: l.drop (i + 1) := by
      have := dropI (l := l) (i := (i : Int)) (by omega) (by omega) Tree.nil
      simpa using this
    have hm : l.getD i Tree.nil ∈ l.take (i + 1) := by
      rw [List.mem_take_iff_getElem]
      exact ⟨i, by omega, by simp [List.getD, List.getElem?_eq_getElem (show i < l.length by omega)]⟩
    rw [e, badAt, if_pos (h _ hm)]
    simp
theorem c139 : Contract Try.prog cfg 139 spec139 := by
  refine make139 c136 ?_
  intro l list _ hp
  simp only [pre139] at hp
  refine vc139 _ _ _ ?_
  refine loop_rule (ι := Int) (fun s => head139_0 l list s) (fun s => 0 ≤ s ∧ s ≤ l.length ∧ ∀ t ∈ l.take s.toNat, rightT (Tree.mk list [] [t]) 64 = true) (fun s => ((l.length : Int) - s).toNat) 0 rfl ⟨by simp, by simp, by simp⟩ ?_
  rintro i ⟨g1, g2, g3⟩
  have hb := badAt_drop (list := list) (l := l) i.toNat g3 (by omega)
  have hl := massK_len l
  refine vc139_l0 _ _ _ _ _ ?_
  (simp only [vcS])
  (simp only [Tree.eta, Edit.eta, Tree.kind_mk, Tree.words_mk, Tree.kids_mk])
  refine ⟨fun hi => ⟨⟨g1, hi⟩, ?_, fun hc => ?_, fun hc => ?_⟩, fun hi => ?_⟩
  · have hm := mem_getD (l := l) (i := i.toNat) (by omega) Tree.nil
    simp only [pre136]
    have h1 := massK_mem hm
    exact ⟨by omega, rngK_mem hp.2.1 hm, hp.2.2⟩
  · rw [dropI g1 hi Tree.nil, badAt, if_neg (by rw [hc]; decide)] at hb
    simp only [res139, resX139]
    rw [hb, show ((i.toNat : Nat) : Int) = i by omega]
    (repeat' (first | exact trivial | exact rfl | apply And.intro))
  · refine ⟨by unfold InR; omega, i + 1, rfl, ⟨by omega, by omega, fun t ht => ?_⟩, by omega⟩
    rw [show (i + 1).toNat = i.toNat + 1 by omega, List.take_add_one] at ht
    rcases List.mem_append.1 ht with ht | ht
    · exact g3 t ht
    · have e : l[i.toNat]? = some (l.getD i.toNat Tree.nil) := by
        simp [List.getD, List.getElem?_eq_getElem (show i.toNat < l.length by omega)]
      rw [e] at ht
      simp only [Option.toList_some, List.mem_singleton] at ht
      subst ht
      exact hc
  · rw [List.drop_of_length_le (by omega)] at hb
    simp only [res139, resX139]
    rw [hb, badAt]
    (repeat' (first | exact trivial | exact rfl | apply And.intro))
theorem c135 : Contract Try.prog cfg 135 spec135 := by
  refine make135 c139 ?_
  intro l list _ hp
  simp only [pre135] at hp
  refine vc135 _ _ _ ?_
  have hb := badAt_iff list l 0 (by decide)
  refine ⟨by simp only [pre139]; exact hp, ?_⟩
  have e : decide (0 ≤ badAt list l 0) = !(treesOk list l) := by
    rw [Bool.eq_iff_iff, decide_eq_true_eq, hb]
    cases treesOk list l <;> simp
  simp only [res135, resX135]
  rw [e]
  (repeat' (first | exact trivial | exact rfl | apply And.intro))
end Go.AM.Ytlahjnelghpmeaa

namespace Go.AM
def wr (n : Int) : Int := IntKind.wrap .i64 n
def opLenW (o : Op) : Int := if o.kind = 3 then 1 else wr (o.n + o.l.length)
def capW (n : Int) : Int := if 1048576 < n then 1048576 else n
def lenAW : List Op → Int → Int
  | [], n => n
  | o :: r, n => lenAW r (if o.kind = 2 then n else capW (wr (n + opLenW o)))
def lenBW : List Op → Int → Int
  | [], n => n
  | o :: r, n => lenBW r (if o.kind = 1 then n else capW (wr (n + opLenW o)))
def bareE (e : Edit) : Bool :=
  if (e.kind ≠ 1 ∧ ¬(noneT e.old = true ∧ noneT e.new = true)) ∨ (e.kind ≠ 2 ∧ ¬(e.words.length = 0 ∧ e.kids.length = 0)) ∨ (e.kind ≠ 3 ∧ (e.list ≠ 0 ∨ e.ops.length ≠ 0)) then false else true
end Go.AM

namespace Go.AM.Ytlahjnelghpmeaa
open Go.AM Go.Proofs
def args56 : ArgL (Edit × Unit) := (.cons (aEl .edit) .nil)
def pre56 (a : Edit × Unit) : Prop := massE a.1 ≤ 1000000
noncomputable def res56 (a : Edit × Unit) : V U := .tup [(false, [.int .i64 (lenAW (Edit.ops a.1) 0)]), (false, [.int .i64 (lenBW (Edit.ops a.1) 0)])]
noncomputable def spec56 : Fs U := fs args56 (fun a => [pre56 a]) res56
noncomputable def know56 : List (FuncId × Fs U) := []
def lv56 : Lives U := fun i => match i with
  | 0 => ([(1, [])], [((.loc 1), [])])
  | 1 => ([(1, []), (4, []), (5, [])], [((.loc 1), [])])
  | 2 => ([(4, []), (5, []), (10, []), (11, []), (12, [])], [])
  | 3 => ([(4, []), (5, []), (10, []), (11, []), (12, []), (13, [])], [])
  | 4 => ([(4, []), (5, []), (7, []), (10, []), (11, []), (12, [])], [((.loc 7), [])])
  | 5 => ([(4, []), (5, []), (7, []), (8, []), (10, []), (11, []), (12, [])], [((.loc 7), [])])
  | 6 => ([(4, []), (5, []), (7, []), (8, []), (10, []), (11, []), (12, []), (24, [])], [((.loc 7), [])])
  | 7 => ([(4, []), (5, []), (7, []), (8, []), (10, []), (11, []), (12, []), (24, [])], [((.loc 7), [])])
  | 8 => ([(4, []), (5, []), (7, []), (8, []), (10, []), (11, []), (12, []), (27, [])], [((.loc 7), [])])
  | 9 => ([(4, []), (5, []), (7, []), (8, []), (10, []), (11, []), (12, []), (27, [])], [((.loc 7), [])])
  | 10 => ([(4, []), (5, []), (8, []), (10, []), (11, []), (12, []), (34, [])], [])
  | 11 => ([(4, []), (5, []), (10, []), (11, []), (12, [])], [])
  | 12 => ([(4, []), (5, []), (10, []), (11, []), (12, [])], [])
  | 13 => ([(2, []), (3, [])], [])
  | _ => ([], [])
def head56_0 (e : Edit) (x4 : Int) (x5 : Int) (x12 : Int) : LSt U := (⟨[(4, .c (.int .i64 x4)), (5, .c (.int .i64 x5)), (10, .c (.slice (U := U) .op (Edit.ops e) .unk)), (11, .c (.int .i64 ((Edit.ops e).length : Int))), (12, .c (.int .i64 x12))], [], []⟩ : LSt U)
def head56_1 (e : Edit) (x4 : Int) (x5 : Int) (x12 : Int) (x8_a : Int) : LSt U := (⟨[(4, .c (.int .i64 x4)), (5, .c (.int .i64 x5)), (7, .ptr (.loc 7) 0), (8, .c (.int .i64 x8_a)), (10, .c (.slice (U := U) .op (Edit.ops e) .unk)), (11, .c (.int .i64 ((Edit.ops e).length : Int))), (12, .c (.int .i64 x12)), (24, .c (.bool (((OpOf.kind (List.getD (Edit.ops e) (Int.toNat x12) Op.nil)) : Int) == 3)))], [((.loc 7), [.int .i64 (OpOf.kind (List.getD (Edit.ops e) (Int.toNat x12) Op.nil)), .int .i64 (OpOf.n (List.getD (Edit.ops e) (Int.toNat x12) Op.nil)), .slice (U := U) .tree (OpOf.l (List.getD (Edit.ops e) (Int.toNat x12) Op.nil)) .unk, .int .i64 (Edit.kind (OpOf.e (List.getD (Edit.ops e) (Int.toNat x12) Op.nil))), .int .i64 (Tree.kind (Edit.old (OpOf.e (List.getD (Edit.ops e) (Int.toNat x12) Op.nil)))), .slice (U := U) .u64 (Tree.words (Edit.old (OpOf.e (List.getD (Edit.ops e) (Int.toNat x12) Op.nil)))) .unk, .slice (U := U) .tree (Tree.kids (Edit.old (OpOf.e (List.getD (Edit.ops e) (Int.toNat x12) Op.nil)))) .unk, .int .i64 (Tree.kind (Edit.new (OpOf.e (List.getD (Edit.ops e) (Int.toNat x12) Op.nil)))), .slice (U := U) .u64 (Tree.words (Edit.new (OpOf.e (List.getD (Edit.ops e) (Int.toNat x12) Op.nil)))) .unk, .slice (U := U) .tree (Tree.kids (Edit.new (OpOf.e (List.getD (Edit.ops e) (Int.toNat x12) Op.nil)))) .unk, .slice (U := U) .wedit (Edit.words (OpOf.e (List.getD (Edit.ops e) (Int.toNat x12) Op.nil))) .unk, .slice (U := U) .kid (Edit.kids (OpOf.e (List.getD (Edit.ops e) (Int.toNat x12) Op.nil))) .unk, .int .i64 (Edit.list (OpOf.e (List.getD (Edit.ops e) (Int.toNat x12) Op.nil))), .slice (U := U) .op (Edit.ops (OpOf.e (List.getD (Edit.ops e) (Int.toNat x12) Op.nil))) .unk])], []⟩ : LSt U)
def head56_2 (e : Edit) (x5 : Int) (x12 : Int) (x8_a : Int) (x4_b : Int) : LSt U := (⟨[(4, .c (.int .i64 x4_b)), (5, .c (.int .i64 x5)), (7, .ptr (.loc 7) 0), (8, .c (.int .i64 x8_a)), (10, .c (.slice (U := U) .op (Edit.ops e) .unk)), (11, .c (.int .i64 ((Edit.ops e).length : Int))), (12, .c (.int .i64 x12)), (27, .c (.bool (((OpOf.kind (List.getD (Edit.ops e) (Int.toNat x12) Op.nil)) : Int) != 2)))], [((.loc 7), [.int .i64 (OpOf.kind (List.getD (Edit.ops e) (Int.toNat x12) Op.nil)), .int .i64 (OpOf.n (List.getD (Edit.ops e) (Int.toNat x12) Op.nil)), .slice (U := U) .tree (OpOf.l (List.getD (Edit.ops e) (Int.toNat x12) Op.nil)) .unk, .int .i64 (Edit.kind (OpOf.e (List.getD (Edit.ops e) (Int.toNat x12) Op.nil))), .int .i64 (Tree.kind (Edit.old (OpOf.e (List.getD (Edit.ops e) (Int.toNat x12) Op.nil)))), .slice (U := U) .u64 (Tree.words (Edit.old (OpOf.e (List.getD (Edit.ops e) (Int.toNat x12) Op.nil)))) .unk, .slice (U := U) .tree (Tree.kids (Edit.old (OpOf.e (List.getD (Edit.ops e) (Int.toNat x12) Op.nil)))) .unk, .int .i64 (Tree.kind (Edit.new (OpOf.e (List.getD (Edit.ops e) (Int.toNat x12) Op.nil)))), .slice (U := U) .u64 (Tree.words (Edit.new (OpOf.e (List.getD (Edit.ops e) (Int.toNat x12) Op.nil)))) .unk, .slice (U := U) .tree (Tree.kids (Edit.new (OpOf.e (List.getD (Edit.ops e) (Int.toNat x12) Op.nil)))) .unk, .slice (U := U) .wedit (Edit.words (OpOf.e (List.getD (Edit.ops e) (Int.toNat x12) Op.nil))) .unk, .slice (U := U) .kid (Edit.kids (OpOf.e (List.getD (Edit.ops e) (Int.toNat x12) Op.nil))) .unk, .int .i64 (Edit.list (OpOf.e (List.getD (Edit.ops e) (Int.toNat x12) Op.nil))), .slice (U := U) .op (Edit.ops (OpOf.e (List.getD (Edit.ops e) (Int.toNat x12) Op.nil))) .unk])], []⟩ : LSt U)
abbrev W56 (e : Edit) (Q : AExit → LSt U → Prop) := awp cfg (knowW know56) (drawOk cfg (knowW know56)) Try.f56.ntmps lv56 (cd Try.f56 []) (⟨[(0, .agg [.int .i64 (Edit.kind e), .int .i64 (Tree.kind (Edit.old e)), .slice (U := U) .u64 (Tree.words (Edit.old e)) .unk, .slice (U := U) .tree (Tree.kids (Edit.old e)) .unk, .int .i64 (Tree.kind (Edit.new e)), .slice (U := U) .u64 (Tree.words (Edit.new e)) .unk, .slice (U := U) .tree (Tree.kids (Edit.new e)) .unk, .slice (U := U) .wedit (Edit.words e) .unk, .slice (U := U) .kid (Edit.kids e) .unk, .int .i64 (Edit.list e), .slice (U := U) .op (Edit.ops e) .unk])], [], []⟩ : LSt U) Q
theorem vc56 (e : Edit) (Q : AExit → LSt U → Prop) (h : LoopWp (awp cfg (knowW know56) (drawOk cfg (knowW know56)) Try.f56.ntmps lv56 (cd Try.f56 [1, 1, 0, 1, 0, 0])) (head56_0 e 0 0 0) (AExit.inBlock 0 (seqK cfg (knowW know56) (drawOk cfg (knowW know56)) Try.f56.ntmps lv56 (cd Try.f56 [1, 1, 1]) Q))) :
    W56 e Q := by
  have e_ : (W56 e Q) = ((((LoopWp (awp cfg (knowW know56) (drawOk cfg (knowW know56)) Try.f56.ntmps lv56 (cd Try.f56 [1, 1, 0, 1, 0, 0])) (head56_0 e 0 0 0) (AExit.inBlock 0 (seqK cfg (knowW know56) (drawOk cfg (knowW know56)) Try.f56.ntmps lv56 (cd Try.f56 [1, 1, 1]) Q)))))) := by kernel_rfl
  exact e_.mpr h
abbrev W56_l0 (e : Edit) (x4 : Int) (x5 : Int) (x12 : Int) (N0 : LSt U → Prop) (Q : AExit → LSt U → Prop) := awp cfg (knowW know56) (drawOk cfg (knowW know56)) Try.f56.ntmps lv56 (cd Try.f56 [1, 1, 0, 1, 0, 0]) (head56_0 e x4 x5 x12) (AExit.then N0 (AExit.inBlock 0 (seqK cfg (knowW know56) (drawOk cfg (knowW know56)) Try.f56.ntmps lv56 (cd Try.f56 [1, 1, 1]) Q)))
theorem vc56_l0 (e : Edit) (x4 : Int) (x5 : Int) (x12 : Int) (N0 : LSt U → Prop) (Q : AExit → LSt U → Prop) (h : ((decide ((x12 : Int) < ((Edit.ops e).length : Int))) = true → ((0 : Int) ≤ x12 ∧ x12 < ((Edit.ops e).length : Int)) ∧ (((((OpOf.kind (List.getD (Edit.ops e) (Int.toNat x12) Op.nil)) : Int) == 3) = true → awp cfg (knowW know56) (drawOk cfg (knowW know56)) Try.f56.ntmps lv56 (cd Try.f56 [1, 1, 0, 1, 0, 0, 1, 1, 0, 0, 1, 1, 1]) (head56_1 e x4 x5 x12 1) (AExit.inBlock 1 (seqK cfg (knowW know56) (drawOk cfg (knowW know56)) Try.f56.ntmps lv56 (cd Try.f56 [1, 1, 0, 1, 0, 0, 1, 1, 1]) (AExit.then N0 (AExit.inBlock 0 (seqK cfg (knowW know56) (drawOk cfg (knowW know56)) Try.f56.ntmps lv56 (cd Try.f56 [1, 1, 1]) Q)))))) ∧ ((((OpOf.kind (List.getD (Edit.ops e) (Int.toNat x12) Op.nil)) : Int) == 3) = false → awp cfg (knowW know56) (drawOk cfg (knowW know56)) Try.f56.ntmps lv56 (cd Try.f56 [1, 1, 0, 1, 0, 0, 1, 1, 0, 0, 1, 1, 1]) (head56_1 e x4 x5 x12 (IntKind.wrap .i64 (((OpOf.n (List.getD (Edit.ops e) (Int.toNat x12) Op.nil)) : Int) + ((OpOf.l (List.getD (Edit.ops e) (Int.toNat x12) Op.nil)).length : Int)))) (AExit.inBlock 1 (seqK cfg (knowW know56) (drawOk cfg (knowW know56)) Try.f56.ntmps lv56 (cd Try.f56 [1, 1, 0, 1, 0, 0, 1, 1, 1]) (AExit.then N0 (AExit.inBlock 0 (seqK cfg (knowW know56) (drawOk cfg (knowW know56)) Try.f56.ntmps lv56 (cd Try.f56 [1, 1, 1]) Q)))))))) ∧ ((decide ((x12 : Int) < ((Edit.ops e).length : Int))) = false → Q .ret (⟨[(2, .c (.int .i64 x4)), (3, .c (.int .i64 x5))], [], []⟩ : LSt U))) :
    W56_l0 e x4 x5 x12 N0 Q := by
  have e_ : (W56_l0 e x4 x5 x12 N0 Q) = (let zz0 := (((OpOf.kind (List.getD (Edit.ops e) (Int.toNat x12) Op.nil)) : Int) == 3); (((decide ((x12 : Int) < ((Edit.ops e).length : Int))) = true → ((0 : Int) ≤ x12 ∧ x12 < ((Edit.ops e).length : Int)) ∧ ((((zz0 = true → (awp cfg (knowW know56) (drawOk cfg (knowW know56)) Try.f56.ntmps lv56 (cd Try.f56 [1, 1, 0, 1, 0, 0, 1, 1, 0, 0, 1, 1, 1]) (head56_1 e x4 x5 x12 1) (AExit.inBlock 1 (seqK cfg (knowW know56) (drawOk cfg (knowW know56)) Try.f56.ntmps lv56 (cd Try.f56 [1, 1, 0, 1, 0, 0, 1, 1, 1]) (AExit.then N0 (AExit.inBlock 0 (seqK cfg (knowW know56) (drawOk cfg (knowW know56)) Try.f56.ntmps lv56 (cd Try.f56 [1, 1, 1]) Q))))))) ∧ (zz0 = false → awp cfg (knowW know56) (drawOk cfg (knowW know56)) Try.f56.ntmps lv56 (cd Try.f56 [1, 1, 0, 1, 0, 0, 1, 1, 0, 0, 1, 1, 1]) (head56_1 e x4 x5 x12 (IntKind.wrap .i64 (((OpOf.n (List.getD (Edit.ops e) (Int.toNat x12) Op.nil)) : Int) + ((OpOf.l (List.getD (Edit.ops e) (Int.toNat x12) Op.nil)).length : Int)))) (AExit.inBlock 1 (seqK cfg (knowW know56) (drawOk cfg (knowW know56)) Try.f56.ntmps lv56 (cd Try.f56 [1, 1, 0, 1, 0, 0, 1, 1, 1]) (AExit.then N0 (AExit.inBlock 0 (seqK cfg (knowW know56) (drawOk cfg (knowW know56)) Try.f56.ntmps lv56 (cd Try.f56 [1, 1, 1]) Q)))))))))) ∧ ((decide ((x12 : Int) < ((Edit.ops e).length : Int))) = false → (Q .ret (⟨[(2, .c (.int .i64 x4)), (3, .c (.int .i64 x5))], [], []⟩ : LSt U))))) := by kernel_rfl
  exact e_.mpr ⟨fun c_1 => ⟨(h.1 c_1).1, ⟨fun c_2 => ((h.1 c_1).2.1 c_2), fun c_2 => ((h.1 c_1).2.2 c_2)⟩⟩, fun c_1 => (h.2 c_1)⟩
abbrev W56_c1 (e : Edit) (x4 : Int) (x5 : Int) (x12 : Int) (x8_a : Int) (N0 : LSt U → Prop) (Q : AExit → LSt U → Prop) := awp cfg (knowW know56) (drawOk cfg (knowW know56)) Try.f56.ntmps lv56 (cd Try.f56 [1, 1, 0, 1, 0, 0, 1, 1, 0, 0, 1, 1, 1]) (head56_1 e x4 x5 x12 x8_a) (AExit.inBlock 1 (seqK cfg (knowW know56) (drawOk cfg (knowW know56)) Try.f56.ntmps lv56 (cd Try.f56 [1, 1, 0, 1, 0, 0, 1, 1, 1]) (AExit.then N0 (AExit.inBlock 0 (seqK cfg (knowW know56) (drawOk cfg (knowW know56)) Try.f56.ntmps lv56 (cd Try.f56 [1, 1, 1]) Q)))))
theorem vc56_c1 (e : Edit) (x4 : Int) (x5 : Int) (x12 : Int) (x8_a : Int) (N0 : LSt U → Prop) (Q : AExit → LSt U → Prop) (h : ((((OpOf.kind (List.getD (Edit.ops e) (Int.toNat x12) Op.nil)) : Int) != 2) = true → awp cfg (knowW know56) (drawOk cfg (knowW know56)) Try.f56.ntmps lv56 (cd Try.f56 [1, 1, 0, 1, 0, 0, 1, 1, 0, 0, 1, 1, 1, 1]) (head56_2 e x5 x12 x8_a (if (1048576 : Int) < (IntKind.wrap .i64 ((x4 : Int) + x8_a)) then 1048576 else (IntKind.wrap .i64 ((x4 : Int) + x8_a)))) (AExit.inBlock 1 (seqK cfg (knowW know56) (drawOk cfg (knowW know56)) Try.f56.ntmps lv56 (cd Try.f56 [1, 1, 0, 1, 0, 0, 1, 1, 1]) (AExit.then N0 (AExit.inBlock 0 (seqK cfg (knowW know56) (drawOk cfg (knowW know56)) Try.f56.ntmps lv56 (cd Try.f56 [1, 1, 1]) Q)))))) ∧ ((((OpOf.kind (List.getD (Edit.ops e) (Int.toNat x12) Op.nil)) : Int) != 2) = false → awp cfg (knowW know56) (drawOk cfg (knowW know56)) Try.f56.ntmps lv56 (cd Try.f56 [1, 1, 0, 1, 0, 0, 1, 1, 0, 0, 1, 1, 1, 1]) (head56_2 e x5 x12 x8_a x4) (AExit.inBlock 1 (seqK cfg (knowW know56) (drawOk cfg (knowW know56)) Try.f56.ntmps lv56 (cd Try.f56 [1, 1, 0, 1, 0, 0, 1, 1, 1]) (AExit.then N0 (AExit.inBlock 0 (seqK cfg (knowW know56) (drawOk cfg (knowW know56)) Try.f56.ntmps lv56 (cd Try.f56 [1, 1, 1]) Q))))))) :
    W56_c1 e x4 x5 x12 x8_a N0 Q := by
  have e_ : (W56_c1 e x4 x5 x12 x8_a N0 Q) = (let zz0 := (((OpOf.kind (List.getD (Edit.ops e) (Int.toNat x12) Op.nil)) : Int) != 2); ((zz0 = true → (awp cfg (knowW know56) (drawOk cfg (knowW know56)) Try.f56.ntmps lv56 (cd Try.f56 [1, 1, 0, 1, 0, 0, 1, 1, 0, 0, 1, 1, 1, 1]) (head56_2 e x5 x12 x8_a (if (1048576 : Int) < (IntKind.wrap .i64 ((x4 : Int) + x8_a)) then 1048576 else (IntKind.wrap .i64 ((x4 : Int) + x8_a)))) (AExit.inBlock 1 (seqK cfg (knowW know56) (drawOk cfg (knowW know56)) Try.f56.ntmps lv56 (cd Try.f56 [1, 1, 0, 1, 0, 0, 1, 1, 1]) (AExit.then N0 (AExit.inBlock 0 (seqK cfg (knowW know56) (drawOk cfg (knowW know56)) Try.f56.ntmps lv56 (cd Try.f56 [1, 1, 1]) Q))))))) ∧ (zz0 = false → awp cfg (knowW know56) (drawOk cfg (knowW know56)) Try.f56.ntmps lv56 (cd Try.f56 [1, 1, 0, 1, 0, 0, 1, 1, 0, 0, 1, 1, 1, 1]) (head56_2 e x5 x12 x8_a x4) (AExit.inBlock 1 (seqK cfg (knowW know56) (drawOk cfg (knowW know56)) Try.f56.ntmps lv56 (cd Try.f56 [1, 1, 0, 1, 0, 0, 1, 1, 1]) (AExit.then N0 (AExit.inBlock 0 (seqK cfg (knowW know56) (drawOk cfg (knowW know56)) Try.f56.ntmps lv56 (cd Try.f56 [1, 1, 1]) Q)))))))) := by kernel_rfl
  exact e_.mpr ⟨fun c_3 => (h.1 c_3), fun c_3 => (h.2 c_3)⟩
abbrev W56_c2 (e : Edit) (x5 : Int) (x12 : Int) (x8_a : Int) (x4_b : Int) (N0 : LSt U → Prop) (Q : AExit → LSt U → Prop) := awp cfg (knowW know56) (drawOk cfg (knowW know56)) Try.f56.ntmps lv56 (cd Try.f56 [1, 1, 0, 1, 0, 0, 1, 1, 0, 0, 1, 1, 1, 1]) (head56_2 e x5 x12 x8_a x4_b) (AExit.inBlock 1 (seqK cfg (knowW know56) (drawOk cfg (knowW know56)) Try.f56.ntmps lv56 (cd Try.f56 [1, 1, 0, 1, 0, 0, 1, 1, 1]) (AExit.then N0 (AExit.inBlock 0 (seqK cfg (knowW know56) (drawOk cfg (knowW know56)) Try.f56.ntmps lv56 (cd Try.f56 [1, 1, 1]) Q)))))
theorem vc56_c2 (e : Edit) (x5 : Int) (x12 : Int) (x8_a : Int) (x4_b : Int) (N0 : LSt U → Prop) (Q : AExit → LSt U → Prop) (h : ((((OpOf.kind (List.getD (Edit.ops e) (Int.toNat x12) Op.nil)) : Int) != 1) = true → N0 (head56_0 e x4_b (if (1048576 : Int) < (IntKind.wrap .i64 ((x5 : Int) + x8_a)) then 1048576 else (IntKind.wrap .i64 ((x5 : Int) + x8_a))) (IntKind.wrap .i64 ((x12 : Int) + 1)))) ∧ ((((OpOf.kind (List.getD (Edit.ops e) (Int.toNat x12) Op.nil)) : Int) != 1) = false → N0 (head56_0 e x4_b x5 (IntKind.wrap .i64 ((x12 : Int) + 1))))) :
    W56_c2 e x5 x12 x8_a x4_b N0 Q := by
  have e_ : (W56_c2 e x5 x12 x8_a x4_b N0 Q) = ((((((OpOf.kind (List.getD (Edit.ops e) (Int.toNat x12) Op.nil)) : Int) != 1) = true → ((N0 (head56_0 e x4_b (if (1048576 : Int) < (IntKind.wrap .i64 ((x5 : Int) + x8_a)) then 1048576 else (IntKind.wrap .i64 ((x5 : Int) + x8_a))) (IntKind.wrap .i64 ((x12 : Int) + 1)))))) ∧ ((((OpOf.kind (List.getD (Edit.ops e) (Int.toNat x12) Op.nil)) : Int) != 1) = false → (N0 (head56_0 e x4_b x5 (IntKind.wrap .i64 ((x12 : Int) + 1))))))) := by kernel_rfl
  exact e_.mpr ⟨fun c_4 => (h.1 c_4), fun c_4 => (h.2 c_4)⟩
def Body56 (e : Edit)  : Prop := awp cfg (knowW (know56)) (drawOk cfg (knowW (know56))) Try.f56.ntmps lv56 (cd Try.f56 []) (entry (args56.can (e, ())) []) (EndsQ cfg Try.f56.ntmps Try.f56.results.toList (res56 (e, ())) [])
theorem make56 (hb : ∀ (e : Edit) (_ : Unit), pre56 (e, ()) → Body56 e) : Contract Try.prog cfg 56 spec56 :=
  contract_flatW (l := []) cfgOk rfl (trivial) lv56 Try.func56 rfl rfl 1 (fun _ => rfl) (by decide) (fun ⟨e, _⟩ => hb e ())
end Go.AM.Ytlahjnelghpmeaa

namespace Go.AM.Ytlahjnelghpmeaa
open Go.AM Go.Proofs
theorem wr_in {n : Int} (h : InR n) : wr n = n := by
  unfold InR at h
  simp [wr, IntKind.wrap, IntKind.signed, IntKind.bits]
  split <;> omega
theorem lenAW_drop {l : List Op} {i : Int} (n : Int) (h0 : 0 ≤ i) (h : i < l.length) : lenAW (l.drop i.toNat) n = lenAW (l.drop (i + 1).toNat) (if (l.getD i.toNat Op.nil).kind = 2 then n else capW (wr (n + opLenW (l.getD i.toNat Op.nil)))) := by
  rw [dropI h0 h Op.nil, lenAW]
theorem lenBW_drop {l : List Op} {i : Int} (n : Int) (h0 : 0 ≤ i) (h : i < l.length) : lenBW (l.drop i.toNat) n = lenBW (l.drop (i + 1).toNat) (if (l.getD i.toNat Op.nil).kind = 1 then n else capW (wr (n + opLenW (l.getD i.toNat Op.nil)))) := by
  rw [dropI h0 h Op.nil, lenBW]
theorem c56 : Contract Try.prog cfg 56 spec56 := by
  refine make56 ?_
  intro e _ hp
  simp only [pre56] at hp
  have h1 := len_massE e
  have h2 := massOs_len e.ops
  refine vc56 _ _ ?_
  refine loop_rule (ι := Int × Int × Int) (fun s => head56_0 e s.1 s.2.1 s.2.2) (fun s => (0 ≤ s.2.2 ∧ s.2.2 ≤ e.ops.length) ∧ lenAW (e.ops.drop s.2.2.toNat) s.1 = lenAW e.ops 0 ∧ lenBW (e.ops.drop s.2.2.toNat) s.2.1 = lenBW e.ops 0) (fun s => ((e.ops.length : Int) - s.2.2).toNat) (0, 0, 0) rfl ⟨⟨by simp, by simp⟩, rfl, rfl⟩ ?_
  rintro ⟨n, m, i⟩ ⟨⟨g1, g2⟩, g3, g4⟩
  dsimp only at g1 g2 g3 g4
  refine vc56_l0 _ _ _ _ _ _ ?_
  (simp only [vcS])
  refine ⟨fun hi => ⟨⟨g1, hi⟩, ?_⟩, fun hi => ?_⟩
  · rw [lenAW_drop _ g1 hi] at g3
    rw [lenBW_drop _ g1 hi] at g4
    have hk : IntKind.wrap .i64 (i + 1) = i + 1 := wr_in (by unfold InR; omega)
    generalize hy : e.ops.getD i.toNat Op.nil = y at *
    have key : ∀ k : Int, k = opLenW y → ∀ (Q' : AExit → LSt U → Prop), W56_c1 e n m i k (fun s2 => ∃ j : Int × Int × Int, s2 = head56_0 e j.1 j.2.1 j.2.2 ∧ ((0 ≤ j.2.2 ∧ j.2.2 ≤ e.ops.length) ∧ lenAW (e.ops.drop j.2.2.toNat) j.1 = lenAW e.ops 0 ∧ lenBW (e.ops.drop j.2.2.toNat) j.2.1 = lenBW e.ops 0) ∧ ((e.ops.length : Int) - j.2.2).toNat < ((e.ops.length : Int) - i).toNat) Q' := by
      rintro k rfl Q'
      have step2 : ∀ a : Int, a = (if y.kind = 2 then n else capW (wr (n + opLenW y))) → W56_c2 e m i (opLenW y) a (fun s2 => ∃ j : Int × Int × Int, s2 = head56_0 e j.1 j.2.1 j.2.2 ∧ ((0 ≤ j.2.2 ∧ j.2.2 ≤ e.ops.length) ∧ lenAW (e.ops.drop j.2.2.toNat) j.1 = lenAW e.ops 0 ∧ lenBW (e.ops.drop j.2.2.toNat) j.2.1 = lenBW e.ops 0) ∧ ((e.ops.length : Int) - j.2.2).toNat < ((e.ops.length : Int) - i).toNat) Q' := by
        rintro a ha
        refine vc56_c2 _ _ _ _ _ _ _ ?_
        rw [hy, hk]
        (simp only [vcS])
        rw [← ha] at g3
        refine ⟨fun hb => ⟨(a, _, i + 1), rfl, ⟨⟨by dsimp only; omega, by dsimp only; omega⟩, g3, ?_⟩, by dsimp only; omega⟩, fun hb => ⟨(a, _, i + 1), rfl, ⟨⟨by dsimp only; omega, by dsimp only; omega⟩, g3, ?_⟩, by dsimp only; omega⟩⟩
        · rw [if_neg hb] at g4; exact g4
        · rw [if_pos hb] at g4; exact g4
      refine vc56_c1 _ _ _ _ _ _ _ ?_
      rw [hy]
      (simp only [vcS])
      exact ⟨fun hb => step2 _ (by rw [if_neg hb]; rfl), fun hb => step2 _ (by rw [if_pos hb])⟩
    exact ⟨fun hb => key _ (by unfold opLenW; rw [if_pos hb]) _, fun hb => key _ (by unfold opLenW; rw [if_neg hb]; rfl) _⟩
  · rw [List.drop_of_length_le (by omega)] at g3 g4
    simp only [lenAW, lenBW] at g3 g4
    rw [g3, g4]
    (repeat' (first | exact trivial | exact rfl | apply And.intro))
theorem lenAW_eq : ∀ (l : List Op) (n : Int), (∀ o ∈ l, (0 ≤ o.n ∧ o.n ≤ 1048576) ∧ o.l.length ≤ 1000000) → 0 ≤ n → n ≤ 1048576 → lenAW l n = lenA l n
  | [], _, _, _, _ => rfl
  | o :: r, n, h, h0, hn => by
    have ho := h o (List.mem_cons_self ..)
    have hl := opLen_eq o
    have ew : opLenW o = opLen o := by
      unfold opLenW; rw [hl]
      split
      · rfl
      · exact wr_in (by unfold InR; omega)
    have hb : 0 ≤ opLen o ∧ opLen o ≤ 3000000 := by rw [hl]; split <;> omega
    simp only [lenAW, lenA]
    rw [ew, wr_in (by unfold InR; omega)]
    have e2 : (if o.kind = 2 then n else capW (n + opLen o)) = min (if o.kind = 2 then n else n + opLen o) 1048576 := by
      unfold capW; split
      · omega
      · split <;> omega
    rw [e2]
    exact lenAW_eq r _ (fun x hx => h x (List.mem_cons_of_mem _ hx)) (by split <;> omega) (by omega)
theorem lenBW_eq : ∀ (l : List Op) (n : Int), (∀ o ∈ l, (0 ≤ o.n ∧ o.n ≤ 1048576) ∧ o.l.length ≤ 1000000) → 0 ≤ n → n ≤ 1048576 → lenBW l n = lenB l n
  | [], _, _, _, _ => rfl
  | o :: r, n, h, h0, hn => by
    have ho := h o (List.mem_cons_self ..)
    have hl := opLen_eq o
    have ew : opLenW o = opLen o := by
      unfold opLenW; rw [hl]
      split
      · rfl
      · exact wr_in (by unfold InR; omega)
    have hb : 0 ≤ opLen o ∧ opLen o ≤ 3000000 := by rw [hl]; split <;> omega
    simp only [lenBW, lenB]
    rw [ew, wr_in (by unfold InR; omega)]
    have e2 : (if o.kind = 1 then n else capW (n + opLen o)) = min (if o.kind = 1 then n else n + opLen o) 1048576 := by
      unfold capW; split
      · omega
      · split <;> omega
    rw [e2]
    exact lenBW_eq r _ (fun x hx => h x (List.mem_cons_of_mem _ hx)) (by split <;> omega) (by omega)
end Go.AM.Ytlahjnelghpmeaa
