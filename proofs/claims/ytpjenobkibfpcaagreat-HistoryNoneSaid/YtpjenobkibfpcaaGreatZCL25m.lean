import Derived.Test.YtpjenobkibfpcaaGreatZKB22b
import Derived.Test.YtpjenobkibfpcaaGreatZKD20
set_option linter.unusedSimpArgs false
set_option linter.unusedVariables false
namespace Go.AM.YtpjenobkibfpcaaGreat
open Go.AM Go.Proofs
theorem kind_norm (t : Tree) : (normT t).kind = t.kind := by
  obtain ⟨k, w, ks⟩ := t
  simp only [normT]
  by_cases h0 : k = 0
  · rw [if_pos h0, h0]; rfl
  · rw [if_neg h0]
    by_cases h1 : k = 1
    · rw [if_pos h1, h1]; rfl
    · rw [if_neg h1]; rfl
theorem trim_pre : ∀ (l : List Int), ∃ r, l = trim l ++ r
  | [] => ⟨[], rfl⟩
  | x :: r => by
    obtain ⟨s, hs⟩ := trim_pre r
    simp only [trim]
    split
    · rename_i e
      split
      · exact ⟨x :: r, rfl⟩
      · exact ⟨r, rfl⟩
    · rename_i y t e
      rw [e] at hs
      exact ⟨s, by rw [hs]; rfl⟩
theorem trimK_pre : ∀ (l : List Tree), ∃ r, l = trimK l ++ r
  | [] => ⟨[], rfl⟩
  | x :: r => by
    obtain ⟨s, hs⟩ := trimK_pre r
    simp only [trimK]
    split
    · rename_i e
      split
      · exact ⟨x :: r, rfl⟩
      · exact ⟨r, rfl⟩
    · rename_i y t e
      rw [e] at hs
      exact ⟨s, by rw [hs]; rfl⟩
theorem rightK_pre {list d : Int} : ∀ (a b : List Tree), rightK list (a ++ b) d = true → rightK list a d = true
  | [], _, _ => rfl
  | t :: r, b, h => by
    simp only [List.cons_append, rightK, Bool.and_eq_true] at h ⊢
    exact ⟨h.1, rightK_pre r b h.2⟩
theorem normK_length : ∀ (l : List Tree), (normK l).length = l.length
  | [] => rfl
  | t :: r => by simp only [normK, List.length_cons, normK_length r]
theorem kidB_norm {list : Int} {t : Tree} (h : kidB list t = true) : kidB list (normT t) = true := by
  unfold kidB at h ⊢
  rw [kind_norm]
  split at h
  · rename_i hl
    rw [if_pos hl]
    simp only [Bool.and_eq_true, decide_eq_true_eq] at h ⊢
    obtain ⟨⟨h1, h2, h3⟩, h4⟩ := h
    obtain ⟨k, w, ks⟩ := t
    simp only [Tree.kind_mk, Tree.kids_mk, Tree.words_mk] at h1 h2 h3 h4
    have : ks = [] := List.length_eq_zero_iff.1 h2
    subst this
    subst h1
    exact ⟨⟨rfl, rfl, h3⟩, h4⟩
  · rename_i hl
    rw [if_neg hl]
    exact h
mutual
theorem rightT_norm : ∀ (t : Tree) (d : Int), rightT t d = true → rightT (normT t) d = true
  | .mk k w ks, d, h => by
    have ih := fun (list : Int) (h : rightK list ks (d - 1) = true) => rightK_norm ks list (d - 1) h
    simp only [rightT] at h
    simp only [normT]
    by_cases h0 : k = 0
    · rw [if_pos h0]; simp [Tree.nil, rightT]
    · rw [if_neg h0] at h ⊢
      by_cases h10 : k = 10
      · subst h10
        rw [if_pos rfl] at h
        rw [if_neg (by decide)]
        simp only [decide_eq_true_eq] at h
        simp only [rightT]
        rw [if_neg (by decide), if_pos trivial, normK_length]
        simpa using h
      · rw [if_neg h10] at h
        by_cases hd : d = 0
        · rw [if_pos hd] at h; cases h
        · rw [if_neg hd] at h
          by_cases h1 : k = 1
          · subst h1
            rw [if_pos rfl] at h
            rw [if_pos rfl]
            simp only [Bool.and_eq_true, decide_eq_true_eq] at h
            simp only [rightT]
            rw [if_neg (by decide), if_neg (by decide), if_neg hd, if_pos trivial]
            simp only [Bool.and_eq_true, decide_eq_true_eq]
            obtain ⟨r1, e1⟩ := trim_pre w
            obtain ⟨r2, e2⟩ := trimK_pre (normK ks)
            have l1 := congrArg List.length e1
            have l2 := congrArg List.length e2
            rw [normK_length] at l2
            simp only [List.length_append] at l1 l2
            refine ⟨⟨by omega, by omega⟩, ?_⟩
            have := ih 1 h.2
            rw [e2] at this
            exact rightK_pre _ _ this
          · rw [if_neg h1] at h ⊢
            simp only [Bool.and_eq_true, decide_eq_true_eq] at h
            simp only [rightT]
            rw [if_neg h0, if_neg h10, if_neg hd, if_neg h1, normK_length]
            simp only [Bool.and_eq_true, decide_eq_true_eq]
            exact ⟨h.1, ih k h.2⟩
theorem rightK_norm : ∀ (l : List Tree) (list d : Int), rightK list l d = true → rightK list (normK l) d = true
  | [], _, _, _ => rfl
  | t :: r, list, d, h => by
    simp only [rightK, Bool.and_eq_true] at h
    have h1 := rightT_norm t d h.1.2
    have h2 := rightK_norm r list d h.2
    simp only [normK, rightK, Bool.and_eq_true]
    exact ⟨⟨kidB_norm h.1.1, h1⟩, h2⟩
end
end Go.AM.YtpjenobkibfpcaaGreat

namespace Go.AM.YtpjenobkibfpcaaGreat
open Go.AM Go.Proofs
theorem turnE_kind (e : Edit) : (turnE e).kind = e.kind := by cases e; rfl
theorem turnE_old (e : Edit) : (turnE e).old = e.new := by cases e; rfl
theorem turnE_new (e : Edit) : (turnE e).new = e.old := by cases e; rfl
theorem wordsOk_turn : ∀ (l : List WEdit) (last : Int), wordsOk last (l.map turnW) = wordsOk last l
  | [], _ => rfl
  | w :: r, last => by
    simp only [List.map_cons, wordsOk, wordsOk_turn r]
    have h1 : (turnW w).at_ = w.at_ := rfl
    have h2 : (turnW w).mask = w.mask := rfl
    have h3 : (turnW w).old = w.new := rfl
    have h4 : (turnW w).new = w.old := rfl
    rw [h1, h2, h3, h4, Bool.and_assoc, Bool.and_assoc, Bool.and_assoc, Bool.and_assoc]
    congr 1
    rw [← Bool.and_assoc, ← Bool.and_assoc, Bool.and_comm (withinW w.new w.mask)]
theorem turnOp_len (o : Op) : opLen (turnOp o) = opLen o ∧ ((turnOp o).kind = 2 ↔ o.kind = 1) ∧ ((turnOp o).kind = 1 ↔ o.kind = 2) := by
  rw [turnOp_at]
  by_cases h1 : o.kind = 1
  · rw [if_pos h1]; simp [opLen, h1]
  · rw [if_neg h1]
    by_cases h2 : o.kind = 2
    · rw [if_pos h2]; simp [opLen, h2]
    · rw [if_neg h2]
      by_cases h3 : o.kind = 3
      · rw [if_pos h3]; simp [opLen, h3]
      · rw [if_neg h3]; simp [opLen, h1, h2]
theorem len_turn : ∀ (l : List Op) (n : Int), lenA (turnOs l) n = lenB l n ∧ lenB (turnOs l) n = lenA l n
  | [], _ => ⟨rfl, rfl⟩
  | o :: r, n => by
    obtain ⟨h1, h2, h3⟩ := turnOp_len o
    simp only [turnOs, lenA, lenB]
    rw [h1]
    constructor
    · rw [(len_turn r _).1]
      congr 2
      by_cases h : o.kind = 1
      · rw [if_pos (h2.2 h), if_pos h]
      · rw [if_neg (fun x => h (h2.1 x)), if_neg h]
    · rw [(len_turn r _).2]
      congr 2
      by_cases h : o.kind = 2
      · rw [if_pos (h3.2 h), if_pos h]
      · rw [if_neg (fun x => h (h3.1 x)), if_neg h]
theorem turnOs_len : ∀ (l : List Op), (turnOs l).length = l.length
  | [] => rfl
  | o :: r => by simp only [turnOs, List.length_cons, turnOs_len r]
theorem op_turn {list d : Int} {o : Op} (h : rightOp list o d = true) (hi : rightE o.e d = true → rightE (turnE o.e) d = true) : rightOp list (turnOp o) d = true := by
  have h' := h
  rw [rightOp_at] at h
  by_cases k0 : o.kind = 0
  · have e : turnOp o = o := by rw [turnOp_at, if_neg (by omega), if_neg (by omega), if_neg (by omega)]
    rw [e]; exact h'
  · rw [if_neg k0] at h
    split at h
    · cases h
    · rename_i hk
      by_cases k3 : o.kind = 3
      · rw [if_neg (by omega)] at h
        have e : turnOp o = ⟨o.kind, o.n, o.l, turnE o.e⟩ := by rw [turnOp_at, if_neg (by omega), if_neg (by omega), if_pos k3]
        rw [e, rightOp_at]
        simp only
        rw [if_neg k0, if_neg hk, if_neg (by omega), turnE_kind, turnE_old, turnE_new]
        simp only [Bool.and_eq_true, decide_eq_true_eq] at h ⊢
        refine ⟨⟨h.1.1, hi h.1.2⟩, ?_⟩
        omega
      · rw [if_pos (by omega)] at h
        have hk' : o.kind = 1 ∨ o.kind = 2 := by omega
        rcases hk' with k | k
        · have e : turnOp o = ⟨2, o.n, o.l, o.e⟩ := by rw [turnOp_at, if_pos k]
          rw [e, rightOp_at]
          simp only
          rw [if_neg (by decide), if_neg (by omega), if_pos (by decide)]
          exact h
        · have e : turnOp o = ⟨1, o.n, o.l, o.e⟩ := by rw [turnOp_at, if_neg (by omega), if_pos k]
          rw [e, rightOp_at]
          simp only
          rw [if_neg (by decide), if_neg (by omega), if_pos (by decide)]
          exact h
mutual
theorem rightE_turn : ∀ (e : Edit) (d : Int), rightE e d = true → rightE (turnE e) d = true
  | .mk k o n w ks l os, d, h => by
    have h1 := rightKs_turn ks
    have h2 := rightOs_turn l os
    simp only [rightE] at h
    simp only [turnE, rightE]
    split at h
    · cases h
    · rename_i a
      rw [if_neg a]
      split at h
      · cases h
      · rename_i b
        rw [if_neg (by rw [List.length_map, turnKs_len, turnOs_len]; intro hc; apply b; rcases hc with x | x | x; exact Or.inl ⟨x.1, fun y => x.2 ⟨y.2, y.1⟩⟩; exact Or.inr (Or.inl x); exact Or.inr (Or.inr x))]
        split at h
        · rename_i c
          rw [if_pos c]
          simp only [Bool.and_eq_true, decide_eq_true_eq] at h ⊢
          exact ⟨⟨h.1.2, h.1.1⟩, h.2.2, h.2.1⟩
        · rename_i c
          rw [if_neg c]
          simp only [Bool.and_eq_true, decide_eq_true_eq] at h ⊢
          obtain ⟨⟨⟨⟨x1, x2⟩, x3⟩, x4⟩, x5⟩ := h
          refine ⟨⟨⟨⟨by rw [wordsOk_turn]; exact x1, h1 _ _ x2⟩, x3⟩, h2 _ x4⟩, ?_⟩
          rw [(len_turn os 0).1, (len_turn os 0).2]
          exact ⟨x5.2, x5.1⟩
theorem rightKs_turn : ∀ (ks : List (KidOf Edit)) (last d : Int), rightKs last ks d = true → rightKs last (turnKs ks) d = true
  | [], _, _, _ => rfl
  | k :: r, last, d, h => by
    simp only [rightKs, Bool.and_eq_true] at h
    have h1 := rightKid_turn k last d h.1
    have h2 := rightKs_turn r k.at_ d h.2
    simp only [turnKs, rightKs, Bool.and_eq_true]
    exact ⟨h1, by rw [turnKid_at]; exact h2⟩
theorem rightKid_turn : ∀ (k : KidOf Edit) (last d : Int), rightKid last k d = true → rightKid last (turnKid k) d = true
  | ⟨a, e⟩, last, d, h => by
    simp only [rightKid, Bool.and_eq_true] at h
    have h1 := rightE_turn e d h.2
    simp only [turnKid, rightKid, Bool.and_eq_true]
    rw [turnE_kind]
    exact ⟨h.1, h1⟩
theorem rightOs_turn (list : Int) : ∀ (os : List (OpOf Edit)) (d : Int), rightOs list os d = true → rightOs list (turnOs os) d = true
  | [], _, _ => rfl
  | o :: r, d, h => by
    simp only [rightOs, Bool.and_eq_true] at h
    have h1 := rightOp_turn list o d h.1
    have h2 := rightOs_turn list r d h.2
    simp only [turnOs, rightOs, Bool.and_eq_true]
    exact ⟨h1, h2⟩
theorem rightOp_turn (list : Int) : ∀ (o : OpOf Edit) (d : Int), rightOp list o d = true → rightOp list (turnOp o) d = true
  | ⟨k, n, l, e⟩, d, h => op_turn (o := ⟨k, n, l, e⟩) h (fun he => rightE_turn e d he)
end
end Go.AM.YtpjenobkibfpcaaGreat

namespace Go.AM.YtpjenobkibfpcaaGreat
open Go.AM Go.Proofs
theorem massK_norms : ∀ (l : List Tree), massK (normsT l) ≤ massK l
  | [] => by simp [normsT, massK]
  | t :: r => by
    have h := massK_norms r
    have h2 := normT_mass t
    simp only [normsT] at h
    simp only [normsT, List.map_cons, massK]
    omega
theorem mass_nilT : mass Tree.nil = 1 := by simp [Tree.nil, mass, massK]
end Go.AM.YtpjenobkibfpcaaGreat

namespace Go.AM.YtpjenobkibfpcaaGreat
open Go.AM Go.Proofs
theorem nrmE_kind (e : Edit) : (nrmE e).kind = e.kind := by
  rw [nrmE_at]
  split
  · rfl
  · split
    · rfl
    · split <;> rfl
theorem nrmE_old (e : Edit) (h : e.kind = 1) : (nrmE e).old = normT e.old ∧ (nrmE e).new = normT e.new := by
  rw [nrmE_at, if_pos h]
  exact ⟨rfl, rfl⟩
theorem rightT_one {D list : Int} {t : Tree} (hD : D ≠ 0) (h : rightT (.mk list [] [t]) D = true) : rightT (.mk list [] [normT t]) D = true := by
  have key := fun (k d : Int) (h : rightK k [t] d = true) => rightK_norm [t] k d h
  simp only [normK] at key
  simp only [rightT] at h ⊢
  split at h
  · simp at h
  · rename_i h0
    rw [if_neg h0]
    split at h
    · simp at h
    · rename_i h1
      rw [if_neg h1]
      try rw [if_neg hD] at h
      try rw [if_neg hD]
      split at h
      · rename_i h2
        rw [if_pos h2]
        simp only [Bool.and_eq_true] at h ⊢
        exact ⟨h.1, key _ _ h.2⟩
      · rename_i h2
        rw [if_neg h2]
        simp only [Bool.and_eq_true] at h ⊢
        exact ⟨h.1, key _ _ h.2⟩
theorem treesOk_norms {D list : Int} (hD : D ≠ 0) : ∀ {l : List Tree}, treesG D list l = true → treesG D list (normsT l) = true
  | [], _ => rfl
  | t :: r, h => by
    simp only [treesG, Bool.and_eq_true] at h
    have h2 := treesOk_norms hD h.2
    simp only [normsT] at h2
    simp only [normsT, List.map_cons, treesG, Bool.and_eq_true]
    exact ⟨rightT_one hD h.1, h2⟩
theorem treesOk_app {D list : Int} : ∀ {a b : List Tree}, treesG D list a = true → treesG D list b = true → treesG D list (a ++ b) = true
  | [], _, _, h => h
  | t :: r, b, h, h2 => by
    simp only [treesG, Bool.and_eq_true] at h
    simp only [List.cons_append, treesG, Bool.and_eq_true]
    exact ⟨h.1, treesOk_app h.2 h2⟩
def rOp (list : Int) (d : Int) (o : Op) : Prop := (o.kind = 0 → 1 ≤ o.n ∧ o.l.length = 0 ∧ sameE o.e = true) ∧ (o.kind ≠ 0 → rightOp list o d = true)
theorem rOp_of {list d : Int} {o : Op} (h : rightOp list o d = true) : rOp list d o := by
  refine ⟨fun hk => ?_, fun _ => h⟩
  obtain ⟨k, n, l, e⟩ := o
  simp only at hk
  subst hk
  simp only [rightOp, if_true, Bool.and_eq_true, decide_eq_true_eq] at h
  exact ⟨h.1.1, h.1.2.2, h.2⟩
theorem rOp_to {list d : Int} {o : Op} (h : rOp list d o) (hn : o.kind = 0 → o.n ≤ 1048576) : rightOp list o d = true := by
  by_cases hk : o.kind = 0
  · have h1 := h.1 hk
    have h2 := hn hk
    obtain ⟨k, n, l, e⟩ := o
    simp only at hk h1 h2
    subst hk
    simp only [rightOp, if_true, Bool.and_eq_true, decide_eq_true_eq]
    exact ⟨⟨h1.1, h2, h1.2.1⟩, h1.2.2⟩
  · exact h.2 hk
theorem rightOs_all {list : Int} : ∀ {os : List Op} {d : Int}, rightOs list os d = true ↔ ∀ o ∈ os, rightOp list o d = true
  | [], d => by simp [rightOs]
  | o :: r, d => by
    simp only [rightOs, Bool.and_eq_true, List.mem_cons, forall_eq_or_imp]
    rw [rightOs_all (os := r)]
theorem sameE_none : sameE Edit.nil = true := rfl
structure OkW (list d : Int) (w : Wst) : Prop where
  out : ∀ o ∈ w.out, rOp list d o
  gone : treesG (dT d) list w.gone = true
  brought : treesG (dT d) list w.brought = true
theorem okW_flush {list d : Int} {w : Wst} (h : OkW list d w) : OkW list d (flushW w) := by
  refine ⟨?_, rfl, rfl⟩
  simp only [flushW, flushO]
  intro o ho
  rcases List.mem_append.1 ho with ho | ho
  · exact h.out o ho
  rcases List.mem_append.1 ho with ho | ho
  · split at ho
    · cases ho
    · rename_i hl
      simp only [List.mem_singleton] at ho
      subst ho
      refine ⟨fun hk => (by cases hk), fun _ => ?_⟩
      simp only [rightOp]
      rw [if_neg (by decide), if_neg (by decide), if_pos (by decide), h.gone, sameE_none]
      simp only [Bool.and_true, Bool.true_and, decide_eq_true_eq]
      omega
  · split at ho
    · cases ho
    · rename_i hl
      simp only [List.mem_singleton] at ho
      subst ho
      refine ⟨fun hk => (by cases hk), fun _ => ?_⟩
      simp only [rightOp]
      rw [if_neg (by decide), if_neg (by decide), if_pos (by decide), h.brought, sameE_none]
      simp only [Bool.and_true, Bool.true_and, decide_eq_true_eq]
      omega
theorem okW_keep {list d : Int} {w : Wst} {n : Int} (h : OkW list d w) (hn : 1 ≤ n) : OkW list d (keepW w n) := by
  have hf := okW_flush h
  refine ⟨?_, rfl, rfl⟩
  simp only [keepW]
  intro o ho
  rcases keepO_cases (flushW w).out n with e | ⟨a, q, e1, e2, e3⟩
  · rw [e] at ho
    rcases List.mem_append.1 ho with ho | ho
    · exact hf.out o ho
    · simp only [List.mem_singleton] at ho
      subst ho
      exact ⟨fun _ => ⟨hn, rfl, sameE_none⟩, fun hk => absurd rfl hk⟩
  · rw [e3] at ho
    rcases List.mem_append.1 ho with ho | ho
    · exact hf.out o (by rw [e1]; exact List.mem_append.2 (Or.inl ho))
    · simp only [List.mem_singleton] at ho
      subst ho
      have hq := (hf.out q (by rw [e1]; simp)).1 e2
      exact ⟨fun _ => ⟨by simp only; omega, hq.2⟩, fun hk => absurd e2 hk⟩
theorem okW_op {list d : Int} {w : Wst} {o : Op} (h : OkW list d w) (hr : rightOp list o d = true) (hi : rightE o.e d = true → rightE (nrmE o.e) d = true) : OkW list d (nrmOp list o w) := by
  obtain ⟨k, n, l, e⟩ := o
  have hr0 := hr
  rw [rightOp] at hr
  rw [nrmOp_at]
  simp only at hi ⊢
  split at hr
  · rename_i hk
    rw [if_pos hk]
    simp only [Bool.and_eq_true, decide_eq_true_eq] at hr
    exact okW_keep h hr.1.1
  · rename_i hk
    rw [if_neg hk]
    split at hr
    · cases hr
    · rename_i hn
      split at hr
      · rename_i h3
        simp only [Bool.and_eq_true, decide_eq_true_eq] at hr
        by_cases k1 : k = 1
        · rw [if_pos k1]
          exact ⟨h.out, treesOk_app h.gone (treesOk_norms (dT_ne d) hr.1.1), h.brought⟩
        · rw [if_neg k1, if_pos (by omega)]
          exact ⟨h.out, h.gone, treesOk_app h.brought (treesOk_norms (dT_ne d) hr.1.1)⟩
      · rename_i h3
        rw [if_neg (by omega), if_neg (by omega), if_pos (by omega)]
        split
        · exact okW_keep h (by decide)
        · have hf := okW_flush h
          refine ⟨?_, rfl, rfl⟩
          intro o ho
          rcases List.mem_append.1 ho with ho | ho
          · exact hf.out o ho
          · simp only [List.mem_singleton] at ho
            subst ho
            refine ⟨fun hk => (by cases hk), fun _ => ?_⟩
            simp only [Bool.and_eq_true, decide_eq_true_eq] at hr
            simp only [rightOp]
            rw [if_neg (by decide), if_neg (by decide), if_neg (by decide), nrmE_kind, hi hr.1.2]
            simp only [Bool.and_true, Bool.and_eq_true, decide_eq_true_eq]
            refine ⟨⟨rfl, hr.1.1.2⟩, ?_⟩
            rcases hr.2 with h | h | h
            · exact Or.inl h
            · exact Or.inr (Or.inl h)
            · rw [(nrmE_old e h.1).1, (nrmE_old e h.1).2, kind_norm, kind_norm]
              exact Or.inr (Or.inr h)
def sumA : List Op → Int
  | [] => 0
  | o :: r => (if o.kind = 2 then 0 else opLen o) + sumA r
def sumB : List Op → Int
  | [] => 0
  | o :: r => (if o.kind = 1 then 0 else opLen o) + sumB r
theorem sumA_app : ∀ (a b : List Op), sumA (a ++ b) = sumA a + sumA b
  | [], b => by simp [sumA]
  | o :: r, b => by simp only [List.cons_append, sumA, sumA_app r b]; omega
theorem sumB_app : ∀ (a b : List Op), sumB (a ++ b) = sumB a + sumB b
  | [], b => by simp [sumB]
  | o :: r, b => by simp only [List.cons_append, sumB, sumB_app r b]; omega
theorem lenA_sum : ∀ (l : List Op) (n : Int), (∀ o ∈ l, 0 ≤ opLen o) → 0 ≤ n → n ≤ 1048576 → lenA l n = min (n + sumA l) 1048576 ∧ 0 ≤ sumA l
  | [], n, _, h1, h2 => by simp only [lenA, sumA]; omega
  | o :: r, n, h, h1, h2 => by
    have ho := h o (List.mem_cons_self ..)
    simp only [lenA, sumA]
    have hx : 0 ≤ (if o.kind = 2 then n else n + opLen o) ∧ (if o.kind = 2 then n else n + opLen o) = n + (if o.kind = 2 then 0 else opLen o) := by split <;> omega
    have hy : 0 ≤ (if o.kind = 2 then 0 else opLen o) := by split <;> omega
    rw [hx.2]
    rw [hx.2] at hx
    generalize (if o.kind = 2 then 0 else opLen o) = y at *
    obtain ⟨e1, e2⟩ := lenA_sum r (min (n + y) 1048576) (fun x hx => h x (List.mem_cons_of_mem _ hx)) (by omega) (by omega)
    rw [e1]
    omega
theorem lenB_sum : ∀ (l : List Op) (n : Int), (∀ o ∈ l, 0 ≤ opLen o) → 0 ≤ n → n ≤ 1048576 → lenB l n = min (n + sumB l) 1048576 ∧ 0 ≤ sumB l
  | [], n, _, h1, h2 => by simp only [lenB, sumB]; omega
  | o :: r, n, h, h1, h2 => by
    have ho := h o (List.mem_cons_self ..)
    simp only [lenB, sumB]
    have hx : 0 ≤ (if o.kind = 1 then n else n + opLen o) ∧ (if o.kind = 1 then n else n + opLen o) = n + (if o.kind = 1 then 0 else opLen o) := by split <;> omega
    have hy : 0 ≤ (if o.kind = 1 then 0 else opLen o) := by split <;> omega
    rw [hx.2]
    rw [hx.2] at hx
    generalize (if o.kind = 1 then 0 else opLen o) = y at *
    obtain ⟨e1, e2⟩ := lenB_sum r (min (n + y) 1048576) (fun x hx => h x (List.mem_cons_of_mem _ hx)) (by omega) (by omega)
    rw [e1]
    omega
theorem rOp_len {list d : Int} {o : Op} (h : rOp list d o) : 0 ≤ opLen o := by
  unfold opLen
  split
  · decide
  · by_cases hk : o.kind = 0
    · have := (h.1 hk).1; omega
    · have hr := h.2 hk
      obtain ⟨k, n, l, e⟩ := o
      simp only at hk ⊢
      rw [rightOp, if_neg hk] at hr
      split at hr
      · cases hr
      · omega
theorem sumA_mem : ∀ {l : List Op} {o : Op}, (∀ o ∈ l, 0 ≤ opLen o) → o ∈ l → o.kind ≠ 2 → opLen o ≤ sumA l
  | a :: r, o, h, ho, hk => by
    have hr := (lenA_sum r 0 (fun x hx => h x (List.mem_cons_of_mem _ hx)) (by decide) (by decide)).2
    have ha := h a (List.mem_cons_self ..)
    simp only [sumA]
    rcases List.mem_cons.1 ho with rfl | ho
    · rw [if_neg hk]; omega
    · have := sumA_mem (fun x hx => h x (List.mem_cons_of_mem _ hx)) ho hk
      split <;> omega
def sA (w : Wst) : Int := sumA w.out + w.gone.length
def sB (w : Wst) : Int := sumB w.out + w.brought.length
theorem sum_flush (w : Wst) : sumA (flushW w).out = sA w ∧ sumB (flushW w).out = sB w := by
  simp only [flushW, flushO, sA, sB, sumA_app, sumB_app]
  constructor
  · by_cases hg : w.gone.length = 0
    · rw [if_pos hg]
      by_cases hb : w.brought.length = 0
      · rw [if_pos hb]; simp [sumA]; omega
      · rw [if_neg hb]; simp [sumA]; omega
    · rw [if_neg hg]
      by_cases hb : w.brought.length = 0
      · rw [if_pos hb]; simp [sumA, opLen]
      · rw [if_neg hb]; simp [sumA, opLen]
  · by_cases hg : w.gone.length = 0
    · rw [if_pos hg]
      by_cases hb : w.brought.length = 0
      · rw [if_pos hb]; simp [sumB]; omega
      · rw [if_neg hb]; simp [sumB, opLen]
    · rw [if_neg hg]
      by_cases hb : w.brought.length = 0
      · rw [if_pos hb]; simp [sumB]; omega
      · rw [if_neg hb]; simp [sumB, opLen]
theorem sum_keep (w : Wst) (n : Int) : sA (keepW w n) = sA w + n ∧ sB (keepW w n) = sB w + n := by
  have hf := sum_flush w
  simp only [keepW]
  have e1 : ∀ x, sA ⟨x, [], []⟩ = sumA x := fun x => by simp [sA]
  have e2 : ∀ x, sB ⟨x, [], []⟩ = sumB x := fun x => by simp [sB]
  rw [e1, e2, ← hf.1, ← hf.2]
  rcases keepO_cases (flushW w).out n with e | ⟨a, q, e1, e2, e3⟩
  · rw [e, sumA_app, sumB_app]
    simp [sumA, sumB, opLen]
  · rw [e3, e1, sumA_app, sumB_app, sumA_app, sumB_app]
    simp only [sumA, sumB, opLen, e2]
    simp
    omega
theorem sum_op {list d : Int} {w : Wst} {o : Op} (hr : rightOp list o d = true) : sA (nrmOp list o w) = sA w + (if o.kind = 2 then 0 else opLen o) ∧ sB (nrmOp list o w) = sB w + (if o.kind = 1 then 0 else opLen o) := by
  have hl : ∀ l, ((normsT l).length : Int) = l.length := fun l => by simp [normsT]
  obtain ⟨k, n, l, e⟩ := o
  rw [rightOp] at hr
  rw [nrmOp_at]
  simp only [opLen]
  split at hr
  · rename_i hk
    subst hk
    rw [if_pos rfl]
    simp only [Bool.and_eq_true, decide_eq_true_eq] at hr
    have := sum_keep w n
    simp
    omega
  · rename_i hk
    rw [if_neg hk]
    split at hr
    · cases hr
    · rename_i hn
      split at hr
      · rename_i h3
        by_cases k1 : k = 1
        · subst k1
          rw [if_pos rfl]
          simp only [sA, sB, List.length_append]
          simp [hl]
          omega
        · have k2 : k = 2 := by omega
          subst k2
          rw [if_neg k1, if_pos rfl]
          simp only [sA, sB, List.length_append]
          simp [hl]
          omega
      · rename_i h3
        have k3 : k = 3 := by omega
        subst k3
        rw [if_neg (by omega), if_neg (by omega), if_pos rfl]
        split
        · have := sum_keep w 1
          simp
          omega
        · have := sum_flush w
          simp only [sA, sB, sumA_app, sumB_app, sumA, sumB, opLen] at this ⊢
          simp
          omega
mutual
theorem rightE_nrm : ∀ (e : Edit) (d : Int), rightE e d = true → rightE (nrmE e) d = true
  | .mk k o n w ks l os, d, h => by
    have h1 := rightKs_nrm ks
    have h2 := okW_nrm l os
    have h4 := sum_nrm l os
    rw [rightE] at h
    split at h
    · cases h
    · rename_i a
      split at h
      · cases h
      · rename_i b
        have nn : noneT Tree.nil = true := rfl
        by_cases k1 : k = 1
        · subst k1
          rw [if_pos rfl] at h
          have hl : l = 0 := by
            apply Classical.byContradiction
            intro hl
            exact b (.inr (.inr ⟨by decide, .inl hl⟩))
          simp only [Bool.and_eq_true, decide_eq_true_eq] at h
          rw [nrmE, if_pos rfl, rightE, if_neg a, if_neg (by simp [hl]), if_pos rfl]
          simp only [Bool.and_eq_true, decide_eq_true_eq]
          rw [kind_norm, kind_norm]
          exact ⟨⟨rightT_norm _ _ h.1.1, rightT_norm _ _ h.1.2⟩, h.2⟩
        · rw [if_neg k1] at h
          simp only [Bool.and_eq_true, decide_eq_true_eq] at h
          obtain ⟨⟨⟨⟨x1, x2⟩, x3⟩, x4⟩, x5⟩ := h
          rw [nrmE, if_neg k1]
          by_cases k2 : k = 2
          · have hl : l = 0 := by
              apply Classical.byContradiction
              intro hl
              exact b (.inr (.inr ⟨by omega, .inl hl⟩))
            rw [if_pos k2, rightE, if_neg a, if_neg (by simp [nn, hl, k2]), if_neg k1]
            simp only [Bool.and_eq_true, decide_eq_true_eq]
            exact ⟨⟨⟨⟨x1, h1 _ _ x2⟩, x3⟩, rfl⟩, by decide⟩
          · rw [if_neg k2]
            by_cases k3 : k = 3
            · rw [if_pos k3, rightE, if_neg a, if_neg (by simp [nn, k3]), if_neg k1]
              simp only [Bool.and_eq_true, decide_eq_true_eq]
              have hall := rightOs_all.1 x4
              obtain ⟨y1, y2⟩ := lenA_sum os 0 (fun o ho => rOp_len (rOp_of (hall o ho))) (by decide) (by decide)
              obtain ⟨z1, z2⟩ := lenB_sum os 0 (fun o ho => rOp_len (rOp_of (hall o ho))) (by decide) (by decide)
              have hw := h2 (d - 1) W0 x4 ⟨fun o ho => (by cases ho), rfl, rfl⟩
              have hs := h4 (d - 1) W0 x4
              have hff := okW_flush hw
              have hsf := sum_flush (nrmOs l os W0)
              have e0 : sA W0 = 0 ∧ sB W0 = 0 := ⟨rfl, rfl⟩
              have hA := lenA_sum (flushW (nrmOs l os W0)).out 0 (fun o ho => rOp_len (hff.out o ho)) (by decide) (by decide)
              have hB := lenB_sum (flushW (nrmOs l os W0)).out 0 (fun o ho => rOp_len (hff.out o ho)) (by decide) (by decide)
              refine ⟨⟨⟨⟨rfl, rfl⟩, x3⟩, rightOs_all.2 (fun o ho => rOp_to (hff.out o ho) (fun hk => ?_))⟩, ?_, ?_⟩
              · have hm := sumA_mem (fun o ho => rOp_len (hff.out o ho)) ho (by omega)
                unfold opLen at hm
                rw [if_neg (by omega)] at hm
                omega
              · show lenA (flushW (nrmOs l os W0)).out 0 < 1048576
                omega
              · show lenB (flushW (nrmOs l os W0)).out 0 < 1048576
                omega
            · have hl : l = 0 := by
                apply Classical.byContradiction
                intro hl
                exact b (.inr (.inr ⟨k3, .inl hl⟩))
              rw [if_neg k3, rightE, if_neg a, if_neg (by simp [nn, hl]), if_neg k1]
              simp only [Bool.and_eq_true, decide_eq_true_eq]
              exact ⟨⟨⟨⟨rfl, rfl⟩, x3⟩, rfl⟩, by decide⟩
theorem rightKs_nrm : ∀ (ks : List (KidOf Edit)) (last d : Int), rightKs last ks d = true → rightKs last (nrmKs ks) d = true
  | [], _, _, _ => rfl
  | k :: r, last, d, h => by
    simp only [rightKs, Bool.and_eq_true] at h
    have h1 := rightKid_nrm k last d h.1
    have h2 := rightKs_nrm r k.at_ d h.2
    simp only [nrmKs, rightKs, Bool.and_eq_true]
    exact ⟨h1, by rw [nrmKid_at]; exact h2⟩
theorem rightKid_nrm : ∀ (k : KidOf Edit) (last d : Int), rightKid last k d = true → rightKid last (nrmKid k) d = true
  | ⟨a, e⟩, last, d, h => by
    simp only [rightKid, Bool.and_eq_true] at h
    have h1 := rightE_nrm e d h.2
    simp only [nrmKid, rightKid, Bool.and_eq_true]
    rw [nrmE_kind]
    exact ⟨h.1, h1⟩
theorem okW_nrm (list : Int) : ∀ (os : List (OpOf Edit)) (d : Int) (w : Wst), rightOs list os d = true → OkW list d w → OkW list d (nrmOs list os w)
  | [], _, _, _, hw => hw
  | o :: r, d, w, h, hw => by
    simp only [rightOs, Bool.and_eq_true] at h
    have h1 := okW_nrmOp list o d w h.1 hw
    exact okW_nrm list r d _ h.2 h1
theorem okW_nrmOp (list : Int) : ∀ (o : OpOf Edit) (d : Int) (w : Wst), rightOp list o d = true → OkW list d w → OkW list d (nrmOp list o w)
  | ⟨k, n, l, e⟩, d, w, h, hw => okW_op (o := ⟨k, n, l, e⟩) hw h (fun he => rightE_nrm e d he)
theorem sum_nrm (list : Int) : ∀ (os : List (OpOf Edit)) (d : Int) (w : Wst), rightOs list os d = true → sA (nrmOs list os w) = sA w + sumA os ∧ sB (nrmOs list os w) = sB w + sumB os
  | [], _, _, _ => by simp [nrmOs, sumA, sumB]
  | o :: r, d, w, h => by
    simp only [rightOs, Bool.and_eq_true] at h
    have h1 := sum_op (w := w) h.1
    have h2 := sum_nrm list r d (nrmOp list o w) h.2
    simp only [nrmOs, sumA, sumB]
    omega
end
end Go.AM.YtpjenobkibfpcaaGreat

namespace Go.AM.YtpjenobkibfpcaaGreat
open Go.AM Go.Proofs
theorem rngK_app : ∀ {a b : List Tree}, rngK (a ++ b) ↔ rngK a ∧ rngK b
  | [], b => by simp [rngK]
  | t :: r, b => by simp only [List.cons_append, rngK]; rw [rngK_app (a := r), and_assoc]
mutual
theorem rng_norm : ∀ (t : Tree), rng t → rng (normT t)
  | .mk k w ks, h => by
    simp only [rng] at h
    obtain ⟨h1, h2, h3⟩ := h
    have h4 := rngK_norm ks h3
    simp only [normT]
    split
    · simp only [Tree.nil, rng, rngK]
      exact ⟨by decide, by simp, trivial⟩
    · split
      · obtain ⟨r1, e1⟩ := trim_pre w
        obtain ⟨r2, e2⟩ := trimK_pre (normK ks)
        simp only [rng]
        refine ⟨by decide, fun x hx => h2 x (by rw [e1]; exact List.mem_append.2 (Or.inl hx)), ?_⟩
        rw [e2] at h4
        exact (rngK_app.1 h4).1
      · simp only [rng]
        exact ⟨h1, h2, h4⟩
theorem rngK_norm : ∀ (l : List Tree), rngK l → rngK (normK l)
  | [], _ => trivial
  | t :: r, h => by
    simp only [rngK] at h
    have h1 := rng_norm t h.1
    have h2 := rngK_norm r h.2
    simp only [normK, rngK]
    exact ⟨h1, h2⟩
end
theorem rngK_norms : ∀ {l : List Tree}, rngK l → rngK (normsT l)
  | [], _ => trivial
  | t :: r, h => by
    simp only [rngK] at h
    have h2 := rngK_norms h.2
    simp only [normsT] at h2
    simp only [normsT, List.map_cons, rngK]
    exact ⟨rng_norm t h.1, h2⟩
theorem rng_nilT : rng Tree.nil := by
  simp only [Tree.nil, rng, rngK]
  exact ⟨by decide, by simp, trivial⟩
mutual
theorem rngE_turn : ∀ (e : Edit), rngE e → rngE (turnE e)
  | .mk k o n w ks l os, h => by
    simp only [rngE] at h
    obtain ⟨h1, h2, h3, h4, h5, h6, h7⟩ := h
    have i6 := rngKs_turn ks h6
    have i7 := rngOs_turn os h7
    simp only [turnE, rngE]
    refine ⟨h1, h3, h2, fun x hx => ?_, h5, i6, i7⟩
    obtain ⟨y, hy, rfl⟩ := List.mem_map.1 hx
    have := h4 y hy
    simp only [rngW, turnW] at this ⊢
    exact ⟨this.1, this.2.1, this.2.2.2, this.2.2.1⟩
theorem rngKs_turn : ∀ (ks : List (KidOf Edit)), rngKs ks → rngKs (turnKs ks)
  | [], _ => trivial
  | k :: r, h => by
    simp only [rngKs] at h
    have h1 := rngKid_turn k h.1
    have h2 := rngKs_turn r h.2
    simp only [turnKs, rngKs]
    exact ⟨h1, h2⟩
theorem rngKid_turn : ∀ (k : KidOf Edit), rngKid k → rngKid (turnKid k)
  | ⟨a, e⟩, h => by
    simp only [rngKid] at h
    have h2 := rngE_turn e h.2
    simp only [turnKid, rngKid]
    exact ⟨h.1, h2⟩
theorem rngOs_turn : ∀ (os : List (OpOf Edit)), rngOs os → rngOs (turnOs os)
  | [], _ => trivial
  | o :: r, h => by
    simp only [rngOs] at h
    have h1 := rngOp_turn o h.1
    have h2 := rngOs_turn r h.2
    simp only [turnOs, rngOs]
    exact ⟨h1, h2⟩
theorem rngOp_turn : ∀ (o : OpOf Edit), rngOp o → rngOp (turnOp o)
  | ⟨k, n, l, e⟩, h => by
    simp only [rngOp] at h
    have h4 := rngE_turn e h.2.2.2
    simp only [turnOp]
    split
    · simp only [rngOp]; exact ⟨by unfold isI; omega, h.2⟩
    · split
      · simp only [rngOp]; exact ⟨by unfold isI; omega, h.2⟩
      · split
        · simp only [rngOp]; exact ⟨h.1, h.2.1, h.2.2.1, h4⟩
        · simp only [rngOp]; exact h
end
structure RngW (w : Wst) : Prop where
  out : ∀ o ∈ w.out, rngK o.l ∧ rngE o.e
  gone : rngK w.gone
  brought : rngK w.brought
theorem rngE_none : rngE Edit.nil := by
  simp only [Edit.nil, rngE, rngKs, rngOs]
  exact ⟨by unfold isI; omega, rng_nilT, rng_nilT, by simp, by unfold isI; omega, trivial, trivial⟩
theorem rngW_flush {w : Wst} (h : RngW w) : RngW (flushW w) := by
  refine ⟨?_, trivial, trivial⟩
  simp only [flushW, flushO]
  intro o ho
  rcases List.mem_append.1 ho with ho | ho
  · exact h.out o ho
  rcases List.mem_append.1 ho with ho | ho
  · split at ho
    · cases ho
    · simp only [List.mem_singleton] at ho
      subst ho
      exact ⟨h.gone, rngE_none⟩
  · split at ho
    · cases ho
    · simp only [List.mem_singleton] at ho
      subst ho
      exact ⟨h.brought, rngE_none⟩
theorem rngW_keep {w : Wst} {n : Int} (h : RngW w) : RngW (keepW w n) := by
  have hf := rngW_flush h
  refine ⟨?_, trivial, trivial⟩
  simp only [keepW]
  intro o ho
  rcases keepO_cases (flushW w).out n with e | ⟨a, q, e1, e2, e3⟩
  · rw [e] at ho
    rcases List.mem_append.1 ho with ho | ho
    · exact hf.out o ho
    · simp only [List.mem_singleton] at ho
      subst ho
      exact ⟨trivial, rngE_none⟩
  · rw [e3] at ho
    rcases List.mem_append.1 ho with ho | ho
    · exact hf.out o (by rw [e1]; exact List.mem_append.2 (Or.inl ho))
    · simp only [List.mem_singleton] at ho
      subst ho
      exact hf.out q (by rw [e1]; simp)
theorem rngW_op {list : Int} {w : Wst} {o : Op} (h : RngW w) (hl : rngK o.l) (he : rngE (nrmE o.e)) : RngW (nrmOp list o w) := by
  rw [nrmOp_at]
  split
  · exact rngW_keep h
  · split
    · exact ⟨h.out, rngK_app.2 ⟨h.gone, rngK_norms hl⟩, h.brought⟩
    · split
      · exact ⟨h.out, h.gone, rngK_app.2 ⟨h.brought, rngK_norms hl⟩⟩
      · split
        · split
          · exact rngW_keep h
          · refine ⟨?_, trivial, trivial⟩
            intro o ho
            rcases List.mem_append.1 ho with ho | ho
            · exact (rngW_flush h).out o ho
            · simp only [List.mem_singleton] at ho
              subst ho
              exact ⟨trivial, he⟩
        · exact h
theorem rngOs_every : ∀ {os : List Op}, (∀ o ∈ os, rngOp o) → rngOs os
  | [], _ => trivial
  | o :: r, h => by
    simp only [rngOs]
    exact ⟨h o (List.mem_cons_self ..), rngOs_every (fun x hx => h x (List.mem_cons_of_mem _ hx))⟩
theorem rightOp_rng {list d : Int} {o : Op} (h : rightOp list o d = true) (hl : rngK o.l) (he : rngE o.e) : rngOp o := by
  have hn := rightOp_n h
  obtain ⟨k, n, l, e⟩ := o
  simp only at hn hl he
  simp only [rngOp]
  refine ⟨?_, by unfold isI; omega, hl, he⟩
  rw [rightOp] at h
  unfold isI
  split at h
  · omega
  · split at h
    · cases h
    · omega
mutual
theorem rngE_nrm' : ∀ (e : Edit) (d : Int), rightE e d = true → rngE e → rngE (nrmE e)
  | .mk k o n w ks l os, d, hr, h => by
    have hin := rightE_in hr
    have hout := rightE_in (rightE_nrm _ _ hr)
    simp only [Edit.kids_mk, Edit.ops_mk, Edit.list_mk] at hin
    simp only [rngE] at h
    obtain ⟨h1, h2, h3, h4, h5, h6, h7⟩ := h
    have i6 := rngKs_nrm ks (d - 1) (fun k hk => (hin.1 k hk).1) h6
    have i7 := rngOs_nrm l os (d - 1) hin.2 h7 W0 ⟨fun o ho => (by cases ho), trivial, trivial⟩
    rw [nrmE] at hout ⊢
    by_cases k1 : k = 1
    · rw [if_pos k1]
      simp only [rngE]
      exact ⟨h1, rng_norm o h2, rng_norm n h3, by simp, h5, trivial, trivial⟩
    · rw [if_neg k1] at hout ⊢
      by_cases k2 : k = 2
      · rw [if_pos k2]
        simp only [rngE]
        exact ⟨h1, rng_nilT, rng_nilT, h4, h5, i6, trivial⟩
      · rw [if_neg k2] at hout ⊢
        by_cases k3 : k = 3
        · rw [if_pos k3] at hout ⊢
          simp only [rngE]
          refine ⟨h1, rng_nilT, rng_nilT, by simp, h5, trivial, rngOs_every (fun q hq => ?_)⟩
          have hx := hout.2 q hq
          have hy := (rngW_flush i7).out q hq
          exact rightOp_rng hx hy.1 hy.2
        · rw [if_neg k3]
          simp only [rngE]
          exact ⟨h1, rng_nilT, rng_nilT, by simp, h5, trivial, trivial⟩
theorem rngKs_nrm : ∀ (ks : List (KidOf Edit)) (d : Int), (∀ k ∈ ks, rightE k.e d = true) → rngKs ks → rngKs (nrmKs ks)
  | [], _, _, _ => trivial
  | k :: r, d, hr, h => by
    simp only [rngKs] at h
    have h1 := rngKid_nrm k d (hr k (List.mem_cons_self ..)) h.1
    have h2 := rngKs_nrm r d (fun x hx => hr x (List.mem_cons_of_mem _ hx)) h.2
    simp only [nrmKs, rngKs]
    exact ⟨h1, h2⟩
theorem rngKid_nrm : ∀ (k : KidOf Edit) (d : Int), rightE k.e d = true → rngKid k → rngKid (nrmKid k)
  | ⟨a, e⟩, d, hr, h => by
    simp only [rngKid] at h
    have h2 := rngE_nrm' e d hr h.2
    simp only [nrmKid, rngKid]
    exact ⟨h.1, h2⟩
theorem rngOs_nrm (list : Int) : ∀ (os : List (OpOf Edit)) (d : Int), (∀ o ∈ os, rightOp list o d = true) → rngOs os → ∀ (w : Wst), RngW w → RngW (nrmOs list os w)
  | [], _, _, _, w, hw => hw
  | o :: r, d, hr, h, w, hw => by
    simp only [rngOs] at h
    have h1 := rngOp_nrm list o d (hr o (List.mem_cons_self ..)) h.1 w hw
    exact rngOs_nrm list r d (fun x hx => hr x (List.mem_cons_of_mem _ hx)) h.2 _ h1
theorem rngOp_nrm (list : Int) : ∀ (o : OpOf Edit) (d : Int), rightOp list o d = true → rngOp o → ∀ (w : Wst), RngW w → RngW (nrmOp list o w)
  | ⟨k, n, l, e⟩, d, hr, h, w, hw => by
    simp only [rngOp] at h
    by_cases k3 : k = 3
    · have he : rightE e d = true := by
        rw [rightOp, if_neg (by omega), ] at hr
        split at hr
        · cases hr
        · rw [if_neg (by omega)] at hr
          simp only [Bool.and_eq_true] at hr
          exact hr.1.2
      exact rngW_op (o := ⟨k, n, l, e⟩) hw h.2.2.1 (rngE_nrm' e d he h.2.2.2)
    · have hs : rngE (nrmE Edit.nil) := by
        show rngE (.mk 0 Tree.nil Tree.nil [] [] 0 [])
        exact rngE_none
      have e2 : nrmOp list ⟨k, n, l, e⟩ w = nrmOp list ⟨k, n, l, Edit.nil⟩ w := by
        simp only [nrmOp]
        rw [if_neg k3, if_neg k3]
      rw [e2]
      exact rngW_op (o := ⟨k, n, l, Edit.nil⟩) hw h.2.2.1 hs
end
end Go.AM.YtpjenobkibfpcaaGreat

namespace Go.AM.YtpjenobkibfpcaaGreat
open Go.AM Go.Proofs
theorem massTK (t : Tree) : t.words.length + massK t.kids + 1 = mass t := by obtain ⟨k, w, ks⟩ := t; simp only [mass, Tree.words_mk, Tree.kids_mk]; omega
theorem massK_set : ∀ (l : List Tree) (i : Nat) (x : Tree), i < l.length → massK (l.set i x) + mass (l.getD i Tree.nil) = massK l + mass x
  | [], i, x, h => by simp at h
  | a :: r, 0, x, _ => by simp only [List.set_cons_zero, massK, List.getD_cons_zero]; omega
  | a :: r, i + 1, x, h => by
    have := massK_set r i x (by simpa using h)
    simp only [List.set_cons_succ, massK, List.getD_cons_succ]; omega
theorem massK_reps (n : Nat) : massK (List.replicate n Tree.nil) = n := by
  induction n with
  | zero => rfl
  | succ n ih => rw [List.replicate_succ, massK, ih]; simp [Tree.nil, mass, massK]; omega
theorem massK_cat : ∀ (a b : List Tree), massK (a ++ b) = massK a + massK b
  | [], b => by simp [massK]
  | t :: r, b => by simp only [List.cons_append, massK, massK_cat r b]; omega
theorem massK_pad (l : List Tree) (i : Nat) (x : Tree) : massK (setPad Tree.nil l i x) + mass (l.getD i Tree.nil) ≤ massK l + mass x + (i + 1) := by
  have h := massK_set (l ++ List.replicate (i + 1 - l.length) Tree.nil) i x (by simp; omega)
  have e : (l ++ List.replicate (i + 1 - l.length) Tree.nil).getD i Tree.nil = l.getD i Tree.nil := by
    by_cases hi : i < l.length
    · simp only [List.getD_eq_getElem?_getD]; rw [List.getElem?_append_left hi]
    · simp only [List.getD_eq_getElem?_getD]
      rw [List.getElem?_append_right (by omega), List.getElem?_eq_none (l := l) (by omega), List.getElem?_replicate]
      split <;> rfl
  rw [e, massK_cat, massK_reps] at h
  simp only [setPad]
  omega
theorem wsD_len {tw : List Int} : ∀ {ws : List WEdit} {last : Int} {out a : List Int}, wordsOk last ws = true → wsD tw ws out = some a → a.length ≤ max out.length 65535
  | [], _, out, a, _, h => by rw [wsD] at h; cases h; omega
  | w :: r, last, out, a, hw, h => by
    have h1 := wordsOk_all hw w List.mem_cons_self
    simp only [wordsOk, Bool.and_eq_true] at hw
    rw [wsD] at h
    split at h
    · have := wsD_len hw.2 h
      rw [setPad_length] at this
      omega
    · cases h
theorem rightKs_cons {last d : Int} {k : Kid} {r : List Kid} (h : rightKs last (k :: r) d = true) : (last < k.at_ ∧ k.at_ ≤ 65534) ∧ rightE k.e d = true ∧ rightKs k.at_ r d = true := by
  have := rightKs_all h k List.mem_cons_self
  simp only [rightKs, Bool.and_eq_true] at h
  exact ⟨⟨this.1.1, this.1.2.1⟩, this.2, h.2⟩
theorem wsD_len2 {tw : List Int} {ws : List WEdit} {last : Int} {out a : List Int} (hw : wordsOk last ws = true) (h : wsD tw ws out = some a) : a.length ≤ out.length + 65600 * ws.length := by
  cases ws with
  | nil => rw [wsD] at h; cases h; omega
  | cons w r =>
    have := wsD_len hw h
    simp only [List.length_cons]
    omega
theorem nrD_mass (r : Bool) (v : Tree) : mass (nrD r v) ≤ mass v := by
  unfold nrD
  split
  · exact normT_mass v
  · exact Nat.le_refl _
mutual
theorem mass_raw (r : Bool) : ∀ (e : Edit) (d : Int) (t v : Tree), rightE e d = true → rawE r e t = some v → mass v + 18 ≤ mass t + ctE e
  | .mk k o n w ks l os, d, t, v, hr, hv => by
    have ri := rightE_all hr
    have h1 := mass_doKs r ks t.kids
    have h2 := mass_doOs r l os
    have ht := massTK t
    have po := mass_pos o
    have pn := mass_pos n
    have pt := mass_pos t
    unfold rawE at hv
    simp only [ctE]
    split at hv
    · cases hv; omega
    · split at hv
      · split at hv
        · cases hv
          show mass n + 18 ≤ _
          omega
        · cases hv
      · split at hv
        · split at hv
          · obtain ⟨a, ha, hb⟩ := Option.bind_eq_some_iff.1 hv
            obtain ⟨b, hb, e⟩ := Option.map_eq_some_iff.1 hb
            have l1 := wsD_len2 ri.words ha
            simp only [Edit.words_mk] at l1
            have l2 := h1 t.kids b _ (-1) (by omega) ri.kids (fun j _ => rfl) hb
            rw [← e]
            simp only [mass]
            omega
          · cases hv
        · split at hv
          · split at hv
            · obtain ⟨b, hb, e⟩ := Option.map_eq_some_iff.1 hv
              unfold endD at hb
              obtain ⟨x, hx, hy⟩ := Option.bind_eq_some_iff.1 hb
              have l2 := h2 _ t.kids [] x (fun o ho => Go.AM.rightOs_mem ri.ops o ho) hx
              split at hy
              · cases hy
                rw [← e]
                simp only [mass, List.length_nil]
                simp only [massK] at l2
                omega
              · cases hy
            · cases hv
          · cases hv
theorem mass_doKs (r : Bool) : ∀ (ks : List (KidOf Edit)) (tk out b : List Tree) (d last : Int), -1 ≤ last → rightKs last ks d = true → (∀ j : Nat, last < (j : Int) → out.getD j Tree.nil = tk.getD j Tree.nil) → doKs r tk ks out = some b → massK b ≤ massK out + ctKs ks
  | [], tk, out, b, d, last, _, _, _, h => by rw [doKs] at h; cases h; simp
  | k :: s, tk, out, b, d, last, hl, hr, hj, h => by
    obtain ⟨h1, h2, h3⟩ := rightKs_cons hr
    rw [doKs] at h
    obtain ⟨u, hu, hb⟩ := Option.bind_eq_some_iff.1 h
    have m1 := mass_doKid r k tk u d h2 hu
    have m2 := massK_pad out k.at_.toNat u
    rw [hj k.at_.toNat (by omega)] at m2
    have m3 := mass_doKs r s tk _ b d k.at_ (by omega) h3 (fun j hj' => by
      rw [setPad_getD, if_neg (by omega)]
      exact hj j (by omega)) hb
    have m4 : k.at_.toNat + 1 ≤ 65600 := by omega
    have e1 : ctKs (k :: s) = 65600 + ctE k.e + ctKs s := by obtain ⟨a, e⟩ := k; rfl
    rw [e1]
    omega
theorem mass_doKid (r : Bool) : ∀ (k : KidOf Edit) (tk : List Tree) (u : Tree) (d : Int), rightE k.e d = true → doKid r tk k = some u → mass u + 18 ≤ mass (tk.getD k.at_.toNat Tree.nil) + ctE k.e
  | ⟨a, e⟩, tk, u, d, hr, h => by
    rw [doKid, doE_raw] at h
    obtain ⟨v, hv, hu⟩ := Option.map_eq_some_iff.1 h
    have := mass_raw r e d (tk.getD a.toNat Tree.nil) v hr hv
    have hvu := nrD_mass r v
    rw [hu] at hvu
    dsimp only
    omega
theorem mass_doOs (r : Bool) (l : Int) : ∀ (os : List (OpOf Edit)) (d : Int) (rest out : List Tree) (x : List Tree × List Tree), (∀ o ∈ os, rightOp l o d = true) → doOs r os rest out = some x → massK x.1 + massK x.2 ≤ massK out + massK rest + ctOs os
  | [], d, rest, out, x, _, h => by rw [doOs] at h; cases h; simp
  | o :: s, d, rest, out, x, hr, h => by
    rw [doOs] at h
    obtain ⟨y, hy, hx⟩ := Option.bind_eq_some_iff.1 h
    have m1 := mass_doOp r l o d rest out y (hr o List.mem_cons_self) hy
    have m2 := mass_doOs r l s d _ _ x (fun q hq => hr q (List.mem_cons_of_mem _ hq)) hx
    rw [ctOs]
    omega
theorem mass_doOp (r : Bool) (l : Int) : ∀ (o : OpOf Edit) (d : Int) (rest out : List Tree) (x : List Tree × List Tree), rightOp l o d = true → doOp r o rest out = some x → massK x.1 + massK x.2 ≤ massK out + massK rest + ctOp o
  | ⟨k, n, L, e⟩, d, rest, out, x, hr, h => by
    have he := mass_raw r e d (rest.getD 0 Tree.nil)
    rw [doOp] at h
    simp only [ctOp]
    split at h
    · split at h
      · cases h
        have := massK_cat (rest.take n.toNat) (rest.drop n.toNat)
        rw [List.take_append_drop] at this
        dsimp only
        rw [massK_cat]; omega
      · cases h
    · split at h
      · split at h
        · cases h
          have := massK_drop L.length rest
          dsimp only; omega
        · cases h
      · split at h
        · cases h
          dsimp only
          rw [massK_cat]; omega
        · split at h
          · cases h
          · obtain ⟨u, hu, e2⟩ := Option.map_eq_some_iff.1 h
            cases e2
            have hk : k = 3 := by
              have ra := rightOp_all hr
              generalize ho : OpOf.mk k n L e = o at ra
              cases ra <;> (injection ho with h1; try omega)
            rw [doE_raw] at hu
            obtain ⟨v, hv, hu⟩ := Option.map_eq_some_iff.1 hu
            have := he v (right_desc hr hk) hv
            have hvu := nrD_mass r v
            rw [hu] at hvu
            cases rest with
            | nil => contradiction
            | cons a q =>
              rw [massK_cat]
              simp only [massK, List.drop_succ_cons, List.drop_zero, List.getD_cons_zero] at this ⊢
              omega
end
theorem mass_do (r : Bool) (e : Edit) (d : Int) (t u : Tree) (hr : rightE e d = true) (h : doE r e t = some u) : mass u + 18 ≤ mass t + ctE e := by
  rw [doE_raw] at h
  obtain ⟨v, hv, hu⟩ := Option.map_eq_some_iff.1 h
  have := mass_raw r e d t v hr hv
  have hvu := nrD_mass r v
  rw [hu] at hvu
  omega
theorem of8_in {f : Nat → Int} (h : ∀ i, 0 ≤ f i ∧ f i < 256) : isW (of8 f) := by
  have h0 := h 0; have h1 := h 1; have h2 := h 2; have h3 := h 3; have h4 := h 4; have h5 := h 5; have h6 := h 6; have h7 := h 7
  unfold isW of8
  omega
theorem mix_in (a b m : Int) : isW (mix a b m) := of8_in (mixAt_range a b m)
theorem rngK_of {l : List Tree} (h : ∀ t ∈ l, rng t) : rngK l := by
  induction l with
  | nil => exact trivial
  | cons a r ih => exact ⟨h a List.mem_cons_self, ih fun t ht => h t (List.mem_cons_of_mem _ ht)⟩
theorem rng_nilT' : rng Tree.nil := ⟨by decide, by simp, trivial⟩
theorem setPad_mem {α : Type} {z x y : α} {l : List α} {i : Nat} (h : y ∈ setPad z l i x) : y ∈ l ∨ y = z ∨ y = x := by
  rcases List.mem_or_eq_of_mem_set h with h | h
  · rcases List.mem_append.1 h with h | h
    · exact .inl h
    · exact .inr (.inl (List.eq_of_mem_replicate h))
  · exact .inr (.inr h)
theorem rng_get {ks : List Tree} (h : rngK ks) (i : Nat) : rng (ks.getD i Tree.nil) := by
  by_cases hi : i < ks.length
  · exact rngK_mem h (mem_getD hi _)
  · rw [List.getD_eq_getElem?_getD, List.getElem?_eq_none (by omega)]
    exact rng_nilT'
theorem wsD_in {tw : List Int} : ∀ {ws : List WEdit} {out a : List Int}, (∀ x ∈ out, isW x) → wsD tw ws out = some a → ∀ x ∈ a, isW x
  | [], out, a, h, hw => by rw [wsD] at hw; cases hw; exact h
  | w :: r, out, a, h, hw => by
    rw [wsD] at hw
    split at hw
    · refine wsD_in (fun x hx => ?_) hw
      rcases setPad_mem hx with hx | rfl | rfl
      · exact h x hx
      · exact ⟨by omega, by omega⟩
      · exact mix_in _ _ _
    · cases hw
mutual
theorem rng_do (r : Bool) : ∀ (e : Edit) (t u : Tree), rngE e → rng t → doE r e t = some u → rng u
  | .mk k o n w ks l os, t, u, hr, ht, h => by
    have h1 := rng_doKs r ks
    have h2 := rng_doOs r os
    simp only [rngE] at hr
    obtain ⟨r1, r2, r3, r4, r5, r6, r7⟩ := hr
    have hta : isI t.kind ∧ (∀ x ∈ t.words, isW x) ∧ rngK t.kids := by obtain ⟨k, w, ks⟩ := t; exact ht
    rw [doE_at] at h
    obtain ⟨v, hv, hu⟩ := Option.map_eq_some_iff.1 h
    suffices rng v by
      rw [← hu]; unfold nrD
      split
      · exact rng_norm v this
      · exact this
    clear h hu
    split at hv
    · cases hv; exact ht
    · split at hv
      · split at hv
        · cases hv; exact r3
        · cases hv
      · split at hv
        · split at hv
          · obtain ⟨a, ha, hb⟩ := Option.bind_eq_some_iff.1 hv
            obtain ⟨b, hb, e⟩ := Option.map_eq_some_iff.1 hb
            rw [← e]
            exact ⟨by decide, wsD_in hta.2.1 ha, h1 _ _ _ r6 hta.2.2 hta.2.2 hb⟩
          · cases hv
        · split at hv
          · split at hv
            · obtain ⟨b, hb, e⟩ := Option.map_eq_some_iff.1 hv
              unfold endD at hb
              obtain ⟨x, hx, hy⟩ := Option.bind_eq_some_iff.1 hb
              split at hy
              · cases hy
                rw [← e]
                exact ⟨r5, by simp, (h2 _ [] _ r7 hta.2.2 trivial hx).1⟩
              · cases hy
            · cases hv
          · cases hv
theorem rng_doKs (r : Bool) : ∀ (ks : List (KidOf Edit)) (tk out b : List Tree), rngKs ks → rngK tk → rngK out → doKs r tk ks out = some b → rngK b
  | [], tk, out, b, _, _, ho, h => by rw [doKs] at h; cases h; exact ho
  | k :: s, tk, out, b, hk, ht, ho, h => by
    rw [doKs] at h
    obtain ⟨u, hu, hb⟩ := Option.bind_eq_some_iff.1 h
    have m1 := rng_doKid r k tk u hk.1 ht hu
    refine rng_doKs r s tk _ b hk.2 ht (rngK_of fun x hx => ?_) hb
    rcases setPad_mem hx with hx | rfl | rfl
    · exact rngK_mem ho hx
    · exact rng_nilT'
    · exact m1
theorem rng_doKid (r : Bool) : ∀ (k : KidOf Edit) (tk : List Tree) (u : Tree), rngKid k → rngK tk → doKid r tk k = some u → rng u
  | ⟨a, e⟩, tk, u, hr, ht, h => by
    rw [doKid] at h
    exact rng_do r e _ u hr.2 (rng_get ht _) h
theorem rng_doOs (r : Bool) : ∀ (os : List (OpOf Edit)) (rest out : List Tree) (x : List Tree × List Tree), rngOs os → rngK rest → rngK out → doOs r os rest out = some x → rngK x.1 ∧ rngK x.2
  | [], rest, out, x, _, hr, ho, h => by rw [doOs] at h; cases h; exact ⟨ho, hr⟩
  | o :: s, rest, out, x, hs, hr, ho, h => by
    rw [doOs] at h
    obtain ⟨y, hy, hx⟩ := Option.bind_eq_some_iff.1 h
    have m1 := rng_doOp r o rest out y hs.1 hr ho hy
    exact rng_doOs r s _ _ x hs.2 m1.2 m1.1 hx
theorem rng_doOp (r : Bool) : ∀ (o : OpOf Edit) (rest out : List Tree) (x : List Tree × List Tree), rngOp o → rngK rest → rngK out → doOp r o rest out = some x → rngK x.1 ∧ rngK x.2
  | ⟨k, n, L, e⟩, rest, out, x, hs, hr, ho, h => by
    have he := rng_do r e (rest.getD 0 Tree.nil)
    simp only [rngOp] at hs
    have hd : ∀ n, rngK (rest.drop n) := fun n => rngK_of fun t ht => rngK_mem hr (List.mem_of_mem_drop ht)
    have hap : ∀ l, rngK l → rngK (out ++ l) := fun l hl => rngK_app.2 ⟨ho, hl⟩
    rw [doOp] at h
    split at h
    · split at h
      · cases h
        exact ⟨hap _ (rngK_of fun t ht => rngK_mem hr (List.mem_of_mem_take ht)), hd _⟩
      · cases h
    · split at h
      · split at h
        · cases h
          exact ⟨ho, hd _⟩
        · cases h
      · split at h
        · cases h
          exact ⟨hap _ hs.2.2.1, hr⟩
        · split at h
          · cases h
          · obtain ⟨u, hu, e2⟩ := Option.map_eq_some_iff.1 h
            cases e2
            exact ⟨hap _ ⟨he u hs.2.2.2 (rng_get hr 0) hu, trivial⟩, hd _⟩
end
end Go.AM.YtpjenobkibfpcaaGreat

namespace Go.AM.YtpjenobkibfpcaaGreat
open Go.AM Go.Proofs
section
variable {α β : Type} (z : α) (f : β → Option α) (p : β → Int)
def mg : List β → List α → Option (List α)
  | [], out => some out
  | w :: r, out => (f w).bind fun v => mg r (setPad z out (p w).toNat v)
def asc (last : Int) : List β → Prop
  | [] => True
  | w :: r => last < p w ∧ asc (p w) r
variable {z f p} {l0 : List α} {ws : List β} {n a i : Int} {out : List α}
theorem asc_gt {last : Int} : ∀ {l : List β}, asc p last l → ∀ w ∈ l, last < p w
  | [], _, _, hw => by cases hw
  | b :: r, h, w, hw => by
    rcases List.mem_cons.1 hw with rfl | hw
    · exact h.1
    · have := asc_gt h.2 w hw
      have := h.1
      omega
end
theorem wsD_mg (tw : List Int) : ∀ (ws : List WEdit) (out : List Int), wsD tw ws out = mg 0 (fun w => if mix 0 (tw.getD w.at_.toNat 0) w.mask = w.old then some (mix (tw.getD w.at_.toNat 0) w.new w.mask) else none) WEdit.at_ ws out
  | [], _ => rfl
  | w :: r, out => by
    rw [wsD, mg]
    split
    · rw [Option.bind_some]; exact wsD_mg tw r _
    · rfl
theorem doKs_mg (r : Bool) (tk : List Tree) : ∀ (ks : List Kid) (out : List Tree), doKs r tk ks out = mg Tree.nil (doKid r tk) KidOf.at_ ks out
  | [], _ => by rw [doKs]; rfl
  | k :: s, out => by
    rw [doKs, mg]
    congr 1
    funext u
    exact doKs_mg r tk s _
theorem words_asc : ∀ {ws : List WEdit} {last : Int}, wordsOk last ws = true → asc WEdit.at_ last ws
  | [], _, _ => trivial
  | w :: r, last, h => by
    have h1 := wordsOk_all h w List.mem_cons_self
    simp only [wordsOk, Bool.and_eq_true] at h
    exact ⟨h1.1, words_asc h.2⟩
theorem kids_asc : ∀ {ks : List Kid} {last d : Int}, rightKs last ks d = true → asc KidOf.at_ last ks
  | [], _, _, _ => trivial
  | k :: r, last, d, h => by
    obtain ⟨h1, _, h3⟩ := rightKs_cons h
    exact ⟨h1.1, kids_asc h3⟩
end Go.AM.YtpjenobkibfpcaaGreat

namespace Go.AM.YtpjenobkibfpcaaGreat
open Go.AM Go.Proofs
theorem step256 {x y x' y' : Int} (h : x + 256 * y = x' + 256 * y') (hx : 0 ≤ x ∧ x < 256) (hx' : 0 ≤ x' ∧ x' < 256) : x = x' ∧ y = y' := by omega
theorem of8_inj {f g : Nat → Int} (hf : ∀ i, 0 ≤ f i ∧ f i < 256) (hg : ∀ i, 0 ≤ g i ∧ g i < 256) (h : of8 f = of8 g) : ∀ i, i < 8 → f i = g i := by
  unfold of8 at h
  obtain ⟨h0, h⟩ := step256 h (hf 0) (hg 0)
  obtain ⟨h1, h⟩ := step256 h (hf 1) (hg 1)
  obtain ⟨h2, h⟩ := step256 h (hf 2) (hg 2)
  obtain ⟨h3, h⟩ := step256 h (hf 3) (hg 3)
  obtain ⟨h4, h⟩ := step256 h (hf 4) (hg 4)
  obtain ⟨h5, h⟩ := step256 h (hf 5) (hg 5)
  obtain ⟨h6, h7⟩ := step256 h (hf 6) (hg 6)
  intro i hi
  match i, hi with
  | 0, _ => exact h0
  | 1, _ => exact h1
  | 2, _ => exact h2
  | 3, _ => exact h3
  | 4, _ => exact h4
  | 5, _ => exact h5
  | 6, _ => exact h6
  | 7, _ => exact h7
theorem of8_bytes {a : Int} (h : isW a) : of8 (byteAt a) = a := by
  obtain ⟨h0, h1⟩ := h
  simp only [of8, byteAt]
  omega
theorem bytes_eq {a b : Int} (ha : isW a) (hb : isW b) (h : ∀ i, i < 8 → byteAt a i = byteAt b i) : a = b := by
  rw [← of8_bytes ha, ← of8_bytes hb]
  unfold of8
  rw [h 0 (by omega), h 1 (by omega), h 2 (by omega), h 3 (by omega), h 4 (by omega), h 5 (by omega), h 6 (by omega), h 7 (by omega)]
theorem mix_byte {a b m : Int} {i : Nat} (h : i < 8) : byteAt (mix a b m) i = mixAt a b m i :=
  of8_inj (fun i => byteAt_range _ i) (mixAt_range a b m) (by rw [of8_bytes (mix_in a b m)]; rfl) i h
section
variable {α β : Type} {z : α} {f : β → Option α} {p : β → Int}
theorem mg_get : ∀ {ws : List β} {last : Int} {out r : List α}, -1 ≤ last → asc p last ws → mg z f p ws out = some r →
    (∀ w ∈ ws, ∃ v, f w = some v ∧ r.getD (p w).toNat z = v) ∧ (∀ i : Nat, (∀ w ∈ ws, (p w).toNat ≠ i) → r.getD i z = out.getD i z)
  | [], _, out, r, _, _, h => by
    rw [mg] at h; cases h
    exact ⟨fun w hw => (by cases hw), fun _ _ => rfl⟩
  | w :: s, last, out, r, hl, ha, h => by
    rw [mg] at h
    obtain ⟨v, hv, hr⟩ := Option.bind_eq_some_iff.1 h
    have h1 := ha.1
    obtain ⟨i1, i2⟩ := mg_get (by omega) ha.2 hr
    have hn : ∀ x ∈ s, (p x).toNat ≠ (p w).toNat := fun x hx => by have := asc_gt ha.2 x hx; omega
    refine ⟨fun x hx => ?_, fun i hi => ?_⟩
    · rcases List.mem_cons.1 hx with rfl | hx
      · refine ⟨v, hv, ?_⟩
        rw [i2 _ hn, setPad_getD, if_pos rfl]
      · exact i1 x hx
    · rw [i2 i (fun x hx => hi x (List.mem_cons_of_mem _ hx)), setPad_getD, if_neg (fun e => hi w List.mem_cons_self e.symm)]
end
theorem rightK_mem {list d : Int} : ∀ {l : List Tree}, rightK list l d = true → ∀ t ∈ l, rightT t d = true
  | [], _, _, ht => by cases ht
  | a :: r, h, t, ht => by
    simp only [rightK, Bool.and_eq_true] at h
    rcases List.mem_cons.1 ht with rfl | ht
    · exact h.1.2
    · exact rightK_mem h.2 t ht
def RT_ (t : Tree) : Prop := (∃ d, rightT t d = true) ∧ rng t
theorem RT_.kids {t : Tree} (h : RT_ t) : (∀ k ∈ t.kids, RT_ k) ∧ (t.kind ≠ 0 → t.kind ≠ 1 → t.kind ≠ 10 → t.words = []) := by
  obtain ⟨⟨d, h⟩, hr⟩ := h
  obtain ⟨k, w, ks⟩ := t
  have hk : ∀ x ∈ ks, rng x := fun x hx => rngK_mem hr.2.2 hx
  show (∀ x ∈ ks, RT_ x) ∧ (k ≠ 0 → k ≠ 1 → k ≠ 10 → w = [])
  rw [rightT] at h
  split at h
  · simp only [decide_eq_true_eq] at h
    rw [List.eq_nil_of_length_eq_zero h.2]
    exact ⟨fun x hx => (by cases hx), fun h0 => absurd ‹_› h0⟩
  · split at h
    · simp only [decide_eq_true_eq] at h
      rw [List.eq_nil_of_length_eq_zero h.2]
      exact ⟨fun x hx => (by cases hx), fun _ _ h0 => absurd ‹_› h0⟩
    · split at h
      · cases h
      · split at h
        · simp only [Bool.and_eq_true] at h
          exact ⟨fun x hx => ⟨⟨_, rightK_mem h.2 x hx⟩, hk x hx⟩, fun _ h1 => absurd ‹_› h1⟩
        · simp only [Bool.and_eq_true, decide_eq_true_eq] at h
          exact ⟨fun x hx => ⟨⟨_, rightK_mem h.2 x hx⟩, hk x hx⟩, fun _ _ _ => List.eq_nil_of_length_eq_zero h.1.2.2.1⟩
theorem RT_nil : RT_ Tree.nil := ⟨⟨1, rfl⟩, rng_nilT'⟩
theorem RT_get {l : List Tree} (h : ∀ t ∈ l, RT_ t) (i : Nat) : RT_ (l.getD i Tree.nil) := by
  by_cases hi : i < l.length
  · exact h _ (mem_getD hi _)
  · rw [List.getD_eq_getElem?_getD, List.getElem?_eq_none (by omega)]; exact RT_nil
theorem rng_at' {t : Tree} (h : rng t) : isI t.kind ∧ (∀ x ∈ t.words, isW x) ∧ rngK t.kids := by obtain ⟨k, w, ks⟩ := t; exact h
theorem rightOp_facts' {list : Int} {o : Op} {d : Int} (h : rightOp list o d = true) : o.kind = 0 ∨ o.kind = 1 ∨ o.kind = 2 ∨ o.kind = 3 := by
  have r := rightOp_all h
  cases r with
  | keep => exact .inl rfl
  | gone => exact .inr (.inl rfl)
  | come => exact .inr (.inr (.inl rfl))
  | into => exact .inr (.inr (.inr rfl))
end Go.AM.YtpjenobkibfpcaaGreat

namespace Go.AM.YtpjenobkibfpcaaGreat
open Go.AM Go.Proofs
def Rx (x y : List Tree × List Tree) : Prop := EqvL x.1 y.1 ∧ EqvL x.2 y.2
theorem Rx.rfl' (a : Option (List Tree × List Tree)) : OptR Rx a a := by cases a; exact trivial; exact ⟨rfl, rfl⟩
theorem Rx.of {a b : Option (List Tree × List Tree)} (h : a = b) : OptR Rx a b := by rw [h]; exact Rx.rfl' b
theorem OptR.trans' {α : Type} {R : α → α → Prop} (ht : ∀ x y z, R x y → R y z → R x z) {a b c : Option α} (h1 : OptR R a b) (h2 : OptR R b c) : OptR R a c := by
  cases a <;> cases b <;> cases c <;> first | exact trivial | exact h1.elim | exact h2.elim | exact ht _ _ _ h1 h2
theorem Rx.trans {a b c : Option (List Tree × List Tree)} (h1 : OptR Rx a b) (h2 : OptR Rx b c) : OptR Rx a c :=
  OptR.trans' (fun _ _ _ p q => ⟨Eq.trans p.1 q.1, Eq.trans p.2 q.2⟩) h1 h2
theorem doOs_app (r : Bool) : ∀ (a b : List Op) (rest out : List Tree), doOs r (a ++ b) rest out = (doOs r a rest out).bind fun x => doOs r b x.2 x.1
  | [], b, rest, out => by rw [doOs]; rfl
  | o :: s, b, rest, out => by
    rw [List.cons_append, doOs, doOs]
    cases h : doOp r o rest out with
    | none => rfl
    | some x => rw [Option.bind_some, Option.bind_some]; exact doOs_app r s b _ _
theorem doOs_one (r : Bool) (o : Op) (rest out : List Tree) : doOs r [o] rest out = doOp r o rest out := by
  rw [doOs]
  cases doOp r o rest out with
  | none => rfl
  | some x => rw [Option.bind_some, doOs]
theorem doOs_end (r : Bool) (a : List Op) (o : Op) (rest out : List Tree) : doOs r (a ++ [o]) rest out = (doOs r a rest out).bind fun x => doOp r o x.2 x.1 := by
  rw [doOs_app]
  congr 1
  funext x
  exact doOs_one r o _ _
theorem doOs_suffix {r : Bool} : ∀ {os : List Op} {rest out : List Tree} {x : List Tree × List Tree}, doOs r os rest out = some x → ∃ n, x.2 = rest.drop n
  | [], rest, out, x, h => by rw [doOs] at h; cases h; exact ⟨0, by simp⟩
  | o :: s, rest, out, x, h => by
    rw [doOs] at h
    obtain ⟨y, hy, hx⟩ := Option.bind_eq_some_iff.1 h
    obtain ⟨n, hn⟩ := doOs_suffix hx
    have : ∃ m, y.2 = rest.drop m := by
      rw [doOp_at] at hy
      split at hy
      · split at hy
        · cases hy; exact ⟨_, rfl⟩
        · cases hy
      · split at hy
        · split at hy
          · cases hy; exact ⟨_, rfl⟩
          · cases hy
        · split at hy
          · cases hy; exact ⟨0, by simp⟩
          · split at hy
            · cases hy
            · obtain ⟨u, _, e⟩ := Option.map_eq_some_iff.1 hy
              cases e
              exact ⟨1, rfl⟩
    obtain ⟨m, hm⟩ := this
    exact ⟨m + n, by rw [hn, hm, List.drop_drop]⟩
theorem goneD_nil (rest : List Tree) : goneD [] rest = true := by unfold goneD; rw [eqX_iff.2 (by simp)]; simp
theorem goneD_norms (l rest : List Tree) : goneD (normsT l) rest = goneD l rest := by
  unfold goneD
  rw [normsT_idem, show (normsT l).length = l.length by simp [normsT]]
theorem goneD_iff (l rest : List Tree) : goneD l rest = true ↔ l.length ≤ rest.length ∧ normsT l = normsT (rest.take l.length) := by
  unfold goneD
  rw [Bool.and_eq_true, decide_eq_true_eq, eqX_iff]
theorem goneD_app (a b rest : List Tree) : goneD (a ++ b) rest = (goneD a rest && goneD b (rest.drop a.length)) := by
  rw [Bool.eq_iff_iff, Bool.and_eq_true, goneD_iff, goneD_iff, goneD_iff]
  simp only [List.length_append, List.length_drop]
  constructor
  · rintro ⟨h1, h2⟩
    rw [normsT_append, List.take_add, normsT_append] at h2
    obtain ⟨h3, h4⟩ := List.append_inj h2 (by simp [normsT]; omega)
    exact ⟨⟨by omega, h3⟩, by omega, h4⟩
  · rintro ⟨⟨h1, h2⟩, h3, h4⟩
    refine ⟨by omega, ?_⟩
    rw [normsT_append, List.take_add, normsT_append, h2, h4]
theorem flush_do (s : Wst) (rest out : List Tree) : doOs false (flushW s).out rest out = (doOs false s.out rest out).bind fun x => if goneD s.gone x.2 = true then some (x.1 ++ s.brought, x.2.drop s.gone.length) else none := by
  simp only [flushW, flushO]
  rw [doOs_app]
  congr 1
  funext x
  rw [doOs_app]
  have h1 : doOs false (if s.gone.length = 0 then [] else [⟨1, 0, s.gone, Edit.nil⟩]) x.2 x.1 = if goneD s.gone x.2 = true then some (x.1, x.2.drop s.gone.length) else none := by
    split
    · rename_i h
      rw [List.eq_nil_of_length_eq_zero h, goneD_nil, if_pos rfl, doOs]
      rfl
    · rw [doOs_one, doOp_at]
      rw [if_neg (by show ¬ (1 : Int) = 0; omega), if_pos rfl]
  have h2 : ∀ y : List Tree × List Tree, doOs false (if s.brought.length = 0 then [] else [⟨2, 0, s.brought, Edit.nil⟩]) y.2 y.1 = some (y.1 ++ s.brought, y.2) := by
    intro y
    split
    · rename_i h
      rw [List.eq_nil_of_length_eq_zero h, List.append_nil, doOs]
    · rw [doOs_one, doOp_at]
      rw [if_neg (by show ¬ (2 : Int) = 0; omega), if_neg (by show ¬ (2 : Int) = 1; omega), if_pos rfl]
  rw [h1]
  split
  · rw [Option.bind_some, h2]
  · rfl
theorem keep_do {F : List Op} {n : Int} (hF : ∀ o ∈ F, 0 ≤ o.n) (hn : 0 ≤ n) (rest out : List Tree) : doOs false (keepO F n) rest out = doOs false (F ++ [⟨0, n, [], Edit.nil⟩]) rest out := by
  rcases keepO_cases F n with h | ⟨a, o, h1, h2, h3⟩
  · rw [h]
  · rw [h3, h1, doOs_end, doOs_end, doOs_end]
    cases hx : doOs false a rest out with
    | none => rfl
    | some x =>
      have ho := hF o (by rw [h1]; simp)
      simp only [Option.bind_some]
      rw [doOp_at, doOp_at, if_pos h2, if_pos h2]
      simp only
      have e : (o.n + n).toNat = o.n.toNat + n.toNat := by omega
      rw [e]
      by_cases c : o.n.toNat ≤ x.2.length
      · rw [if_pos c, Option.bind_some, doOp_at, if_pos rfl]
        simp only [List.length_drop]
        by_cases c2 : n.toNat ≤ x.2.length - o.n.toNat
        · rw [if_pos c2, if_pos (by omega), List.drop_drop, List.append_assoc, ← List.take_add]
        · rw [if_neg c2, if_neg (by omega)]
      · rw [if_neg c, if_neg (by omega)]
        rfl
def N0s (s : Wst) : Prop := ∀ o ∈ s.out, 0 ≤ o.n
theorem N0s.flush {s : Wst} (h : N0s s) : ∀ o ∈ (flushW s).out, 0 ≤ o.n := by
  intro o ho
  simp only [flushW, flushO, List.mem_append] at ho
  rcases ho with ho | ho | ho
  · exact h o ho
  · split at ho
    · cases ho
    · simp only [List.mem_singleton] at ho; subst ho; exact Int.le_refl 0
  · split at ho
    · cases ho
    · simp only [List.mem_singleton] at ho; subst ho; exact Int.le_refl 0
theorem N0s.keep {s : Wst} (h : N0s s) {n : Int} (hn : 0 ≤ n) : N0s (keepW s n) := by
  intro o ho
  simp only [keepW] at ho
  rcases keepO_cases (flushW s).out n with e | ⟨a, p, h1, h2, h3⟩
  · rw [e] at ho
    rcases List.mem_append.1 ho with ho | ho
    · exact h.flush o ho
    · simp only [List.mem_singleton] at ho; subst ho; exact hn
  · rw [h3] at ho
    rcases List.mem_append.1 ho with ho | ho
    · exact h.flush o (by rw [h1]; simp [ho])
    · simp only [List.mem_singleton] at ho; subst ho
      have := h.flush p (by rw [h1]; simp)
      show 0 ≤ p.n + n
      omega
theorem right_n {list d : Int} {o : Op} (h : rightOp list o d = true) : 0 ≤ o.n := by
  have r := rightOp_all h
  cases r with
  | keep n h1 => show 0 ≤ n; omega
  | gone | come | into => exact Int.le_refl 0
theorem N0s.op {list d : Int} {s : Wst} {o : Op} (h : N0s s) (hr : rightOp list o d = true) : N0s (nrmOp list o s) := by
  rw [nrmOp_at]
  split
  · exact h.keep (right_n hr)
  · split
    · exact h
    · split
      · exact h
      · split
        · split
          · exact h.keep (by omega)
          · intro p hp
            rcases List.mem_append.1 hp with hp | hp
            · exact h.flush p hp
            · simp only [List.mem_singleton] at hp; subst hp; exact Int.le_refl 0
        · exact h
def K9 (list : Int) (l : List Tree) : Prop := (∀ t ∈ l, RT_ t) ∧ (list = 9 → ∀ t ∈ l, t.kind = 1)
theorem K9.drop {list : Int} {l : List Tree} (h : K9 list l) (n : Nat) : K9 list (l.drop n) := ⟨fun t ht => h.1 t (List.mem_of_mem_drop ht), fun e t ht => h.2 e t (List.mem_of_mem_drop ht)⟩
theorem rightK9 {d : Int} : ∀ {l : List Tree}, rightK 9 l d = true → ∀ t ∈ l, t.kind = 1
  | [], _, t, ht => by cases ht
  | a :: r, h, t, ht => by
    simp only [rightK, Bool.and_eq_true] at h
    rcases List.mem_cons.1 ht with rfl | ht
    · have := h.1.1
      simpa [kidB] using this
    · exact rightK9 h.2 t ht
theorem RT_.k9 {t : Tree} (h : RT_ t) : K9 t.kind t.kids := by
  refine ⟨h.kids.1, fun e => ?_⟩
  obtain ⟨⟨d, h⟩, _⟩ := h
  obtain ⟨k, w, ks⟩ := t
  have e : k = 9 := e
  subst e
  rw [rightT, if_neg (by omega), if_neg (by omega)] at h
  split at h
  · cases h
  · rw [if_neg (by omega)] at h
    simp only [Bool.and_eq_true] at h
    exact rightK9 h.2
theorem step_do {list d : Int} {s : Wst} {o : Op} (hs : N0s s) (hr : rightOp list o d = true) {rest : List Tree} (hk : K9 list rest) (out : List Tree)
    (ih : ∀ y, RT_ y → rightE o.e d = true → OptR Eqv (doE false (nrmE o.e) y) (doE false o.e y)) :
    OptR Rx (doOs false (flushW (nrmOp list o s)).out rest out) ((doOs false (flushW s).out rest out).bind fun x => doOp false o x.2 x.1) := by
  have keep : ∀ n : Int, 0 ≤ n → doOs false (flushW (keepW s n)).out rest out = (doOs false (flushW s).out rest out).bind fun x => doOp false ⟨0, n, [], Edit.nil⟩ x.2 x.1 := by
    intro n hn
    have e : (flushW (keepW s n)).out = keepO (flushW s).out n := by simp [flushW, flushO, keepW]
    rw [e, keep_do hs.flush hn, doOs_end]
  rw [nrmOp_at]
  have r1 := rightOp_facts' hr
  by_cases h0 : o.kind = 0
  · rw [if_pos h0, keep _ (right_n hr)]
    refine Rx.of ?_
    congr 1
    funext x
    rw [doOp_at, doOp_at, if_pos rfl, if_pos h0]
  · rw [if_neg h0]
    by_cases h1 : o.kind = 1
    · rw [if_pos h1, flush_do, flush_do]
      refine Rx.of ?_
      rw [Option.bind_assoc]
      congr 1
      funext x
      simp only
      rw [goneD_app, goneD_norms]
      by_cases c : goneD s.gone x.2 = true
      · rw [if_pos c, c, Bool.true_and, Option.bind_some, doOp_at, if_neg h0, if_pos h1]
        simp only
        rw [List.drop_drop, show (s.gone ++ normsT o.l).length = s.gone.length + o.l.length by simp [normsT]]
      · rw [if_neg c, if_neg (by simp only [Bool.and_eq_true]; exact fun h => c h.1)]
        rfl
    · rw [if_neg h1]
      by_cases h2 : o.kind = 2
      · rw [if_pos h2, flush_do, flush_do, Option.bind_assoc]
        refine OptR.bind (R := Eq) (OptR.rfl' _) ?_
        rintro x _ rfl
        simp only
        split
        · rw [Option.bind_some, doOp_at, if_neg h0, if_neg h1, if_pos h2]
          refine ⟨?_, rfl⟩
          show normsT (x.1 ++ (s.brought ++ normsT o.l)) = normsT (x.1 ++ s.brought ++ o.l)
          simp only [normsT_append, normsT_idem, List.append_assoc]
        · exact trivial
      · have h3 : o.kind = 3 := by rcases r1 with h | h | h | h <;> first | exact absurd h h0 | exact absurd h h1 | exact absurd h h2 | exact h
        rw [if_neg h2, if_pos h3]
        have hre := right_desc hr h3
        have ra := rightOp_all hr
        by_cases hi : idleE list (nrmE o.e) = true
        · rw [if_pos hi, keep 1 (by omega)]
          cases hx : doOs false (flushW s).out rest out with
          | none => exact trivial
          | some x =>
            obtain ⟨m, hm⟩ := doOs_suffix hx
            have hk2 := hk.drop m
            rw [← hm] at hk2
            simp only [Option.bind_some]
            rw [doOp_at, doOp_at, if_pos rfl, if_neg h0, if_neg h1, if_neg h2]
            cases hx2 : x.2 with
            | nil => exact trivial
            | cons y q =>
              rw [hx2] at hk2
              have hek : o.e.kind ≠ 0 := by
                cases ra with
                | into e _ h => exact h
                | keep | gone | come => exact absurd h3 (by simp)
              simp only [idleE, decide_eq_true_eq, nrmE_kind] at hi
              rcases hi with hi | ⟨hl9, he2, hw, hks⟩
              · exact absurd hi hek
              · have hy := hk2.2 hl9 y List.mem_cons_self
                have hn := nrmE_at o.e
                rw [if_neg (by omega), if_pos he2] at hn
                have e1 : o.e.words = [] := by rw [hn] at hw; exact List.eq_nil_of_length_eq_zero hw
                have e2 : o.e.kids = [] := by
                  rw [hn] at hks
                  have : (nrmKs o.e.kids).length = 0 := hks
                  cases hh : o.e.kids with
                  | nil => rfl
                  | cons a b => rw [hh] at this; simp [nrmKs] at this
                have hd : doE false o.e y = some (.mk 1 y.words y.kids) := by
                  rw [doE_at, if_neg hek, if_neg (by omega), if_pos he2, if_pos hy, e1, e2, wsD, Option.bind_some, doKs]
                  rfl
                rw [if_neg (show ¬ (y :: q).length = 0 by simp), List.getD_cons_zero, hd, if_pos (show Int.toNat 1 ≤ (y :: q).length by simp)]
                refine ⟨?_, rfl⟩
                show normsT (x.1 ++ [y]) = normsT (x.1 ++ [Tree.mk 1 y.words y.kids])
                rw [show Tree.mk 1 y.words y.kids = y by rw [← hy]; exact Tree.eta y]
        · rw [if_neg hi]
          have e : (flushW ⟨(flushW s).out ++ [⟨3, 0, [], nrmE o.e⟩], [], []⟩).out = (flushW s).out ++ [⟨3, 0, [], nrmE o.e⟩] := by simp [flushW, flushO]
          rw [e, doOs_end]
          cases hx : doOs false (flushW s).out rest out with
          | none => exact trivial
          | some x =>
            obtain ⟨m, hm⟩ := doOs_suffix hx
            have hk2 := hk.drop m
            rw [← hm] at hk2
            simp only [Option.bind_some]
            rw [doOp_at, doOp_at, if_neg h0, if_neg h1, if_neg h2, if_neg (by show ¬ (3 : Int) = 0; omega), if_neg (by show ¬ (3 : Int) = 1; omega), if_neg (by show ¬ (3 : Int) = 2; omega)]
            refine OptR.ite Iff.rfl (fun _ => trivial) fun _ => ?_
            exact (ih _ (RT_get hk2.1 0) hre).map fun u v h => ⟨norms_app rfl (norms_one.2 h), rfl⟩
mutual
theorem nrm_do : ∀ (e : Edit) (d : Int) (t : Tree), rightE e d = true → RT_ t → OptR Eqv (doE false (nrmE e) t) (doE false e t)
  | .mk k o n w ks l os, d, t, hr, ht => by
    have ri := rightE_all hr
    have h1 := nrm_doKs ks
    have h2 := nrm_doOs l os
    have hkid := ht.kids.1
    have hn : nrmE (.mk k o n w ks l os) = if k = 1 then .mk k (normT o) (normT n) [] [] l [] else if k = 2 then .mk k Tree.nil Tree.nil w (nrmKs ks) l [] else if k = 3 then .mk k Tree.nil Tree.nil [] [] l (flushW (nrmOs l os ⟨[], [], []⟩)).out else .mk k Tree.nil Tree.nil [] [] l [] := by rw [nrmE]
    rw [doE_raw, doE_raw, nrD_false, nrD_false]
    by_cases c1 : k = 1
    · subst c1
      rw [if_pos rfl] at hn
      unfold rawE
      rw [hn]
      refine OptR.ite Iff.rfl (fun _ => rfl) fun _ => OptR.ite Iff.rfl (fun _ => ?_) (fun h => absurd rfl h)
      show OptR Eqv (if sameT (normT (normT o)) (normT t) = true then some (normT n) else none) (if sameT (normT o) (normT t) = true then some n else none)
      rw [normT_idem]
      exact OptR.ite Iff.rfl (fun _ => normT_idem n) (fun _ => trivial)
    · by_cases c2 : k = 2
      · subst c2
        rw [if_neg c1, if_pos rfl] at hn
        unfold rawE
        rw [hn]
        refine OptR.ite Iff.rfl (fun _ => rfl) fun _ => OptR.ite Iff.rfl (fun h => absurd h c1) fun _ => OptR.ite Iff.rfl (fun _ => ?_) (fun h => absurd rfl h)
        refine OptR.ite Iff.rfl (fun ht1 => ?_) (fun _ => trivial)
        refine OptR.bind (R := Eq) (OptR.rfl' _) ?_
        rintro a _ rfl
        exact (h1 (d - 1) t.kids t.kids t.kids (fun k hk => (rightKs_all ri.kids k hk).2) hkid rfl).map fun x y h => normT_mk _ _ h
      · by_cases c3 : k = 3
        · subst c3
          rw [if_neg c1, if_neg c2, if_pos rfl] at hn
          unfold rawE
          rw [hn]
          refine OptR.ite Iff.rfl (fun _ => rfl) fun _ => OptR.ite Iff.rfl (fun h => absurd h c1) fun _ => OptR.ite Iff.rfl (fun h => absurd h c2) fun _ => OptR.ite Iff.rfl (fun _ => ?_) (fun h => absurd rfl h)
          refine OptR.ite Iff.rfl (fun ht1 => ?_) (fun _ => trivial)
          have hk9 := ht.k9
          rw [ht1] at hk9
          have := h2 (d - 1) ⟨[], [], []⟩ t.kids [] (fun o ho => Go.AM.rightOs_mem ri.ops o ho) (fun o ho => by cases ho) hk9
          exact (endD_rel this).map fun x y h => normT_mk _ _ h
        · have e0 : k = 0 := by have := ri.kind; have : 0 ≤ k ∧ k ≤ 3 := this; omega
          subst e0
          rw [if_neg c1, if_neg c2, if_neg c3] at hn
          unfold rawE
          rw [hn]
          exact OptR.ite Iff.rfl (fun _ => rfl) fun h => absurd rfl h
theorem nrm_doKs : ∀ (ks : List (KidOf Edit)) (d : Int) (tk a b : List Tree), (∀ k ∈ ks, rightE k.e d = true) → (∀ t ∈ tk, RT_ t) → EqvL a b → OptR EqvL (doKs false tk (nrmKs ks) a) (doKs false tk ks b)
  | [], d, tk, a, b, _, _, h => by rw [nrmKs]; exact h
  | k :: r, d, tk, a, b, hr, ht, h => by
    rw [nrmKs, doKs, doKs]
    have e : (nrmKid k).at_ = k.at_ := by cases k; rfl
    rw [e]
    refine (nrm_doKid k d tk (hr k List.mem_cons_self) ht).bind fun x y hxy => nrm_doKs r d tk _ _ (fun q hq => hr q (List.mem_cons_of_mem _ hq)) ht (norms_pad h hxy)
theorem nrm_doKid : ∀ (k : KidOf Edit) (d : Int) (tk : List Tree), rightE k.e d = true → (∀ t ∈ tk, RT_ t) → OptR Eqv (doKid false tk (nrmKid k)) (doKid false tk k)
  | ⟨a, e⟩, d, tk, hr, ht => by rw [nrmKid, doKid, doKid]; exact nrm_do e d _ hr (RT_get ht _)
theorem nrm_doOs (list : Int) : ∀ (os : List (OpOf Edit)) (d : Int) (s : Wst) (rest out : List Tree), (∀ o ∈ os, rightOp list o d = true) → N0s s → K9 list rest → OptR Rx (doOs false (flushW (nrmOs list os s)).out rest out) (doOs false ((flushW s).out ++ os) rest out)
  | [], d, s, rest, out, _, _, _ => by rw [nrmOs, List.append_nil]; exact Rx.rfl' _
  | o :: r, d, s, rest, out, hr, hs, hk => by
    have ho := hr o List.mem_cons_self
    have st := step_do hs ho hk out (nrm_doOp o d)
    rw [nrmOs]
    refine Rx.trans (nrm_doOs list r d _ rest out (fun q hq => hr q (List.mem_cons_of_mem _ hq)) (hs.op ho) hk) ?_
    rw [doOs_app, doOs_app]
    have e : ∀ x : List Tree × List Tree, doOs false (o :: r) x.2 x.1 = (doOp false o x.2 x.1).bind fun y => doOs false r y.2 y.1 := fun x => by rw [doOs]
    rw [show (fun x : List Tree × List Tree => doOs false (o :: r) x.2 x.1) = fun x => (doOp false o x.2 x.1).bind fun y => doOs false r y.2 y.1 from funext e, ← Option.bind_assoc]
    exact st.bind fun x y hxy => doOs_eqv r _ _ _ _ hxy.2 hxy.1 (fun q hq => ⟨_, _, hr q (List.mem_cons_of_mem _ hq)⟩)
theorem nrm_doOp : ∀ (o : OpOf Edit) (d : Int), ∀ y, RT_ y → rightE o.e d = true → OptR Eqv (doE false (nrmE o.e) y) (doE false o.e y)
  | ⟨_, _, _, e⟩, d, y, hy, hr => nrm_do e d y hr hy
end
end Go.AM.YtpjenobkibfpcaaGreat

namespace Go.AM.YtpjenobkibfpcaaGreat
open Go.AM Go.Proofs
theorem mix_back1 {a n m : Int} (hn : isW n) (hw : withinW n m = true) : mix 0 (mix a n m) m = n := by
  unfold withinW at hw
  have hw : mix n 0 m = 0 := of_decide_eq_true hw
  refine bytes_eq (mix_in _ _ _) hn fun i hi => ?_
  have e := congrArg (fun x => byteAt x i) hw
  simp only [mix_byte hi, mixAt] at e
  rw [mix_byte hi, mixAt]
  by_cases h : named m i = true
  · rw [if_pos h, mix_byte hi, mixAt, if_pos h]
  · rw [if_neg h] at e ⊢
    exact e.symm
theorem mix_back2 {a n o m : Int} (ha : isW a) (ho : mix 0 a m = o) : mix (mix a n m) o m = a := by
  refine bytes_eq (mix_in _ _ _) ha fun i hi => ?_
  rw [mix_byte hi, mixAt]
  by_cases h : named m i = true
  · rw [if_pos h, ← ho, mix_byte hi, mixAt, if_pos h]
  · rw [if_neg h, mix_byte hi, mixAt, if_neg h]
theorem mg_some {α β : Type} {z : α} {f : β → Option α} {p : β → Int} : ∀ {ws : List β} {out : List α}, (∀ w ∈ ws, ∃ v, f w = some v) → ∃ r, mg z f p ws out = some r
  | [], out, _ => ⟨out, rfl⟩
  | w :: s, out, h => by
    obtain ⟨v, hv⟩ := h w List.mem_cons_self
    rw [mg, hv, Option.bind_some]
    exact mg_some fun x hx => h x (List.mem_cons_of_mem _ hx)
theorem word_at {l : List Int} (h : ∀ x ∈ l, isW x) (i : Nat) : isW (l.getD i 0) := by
  by_cases hi : i < l.length
  · exact h _ (mem_getD hi _)
  · rw [List.getD_eq_getElem?_getD, List.getElem?_eq_none (by omega)]; show 0 ≤ (0 : Int) ∧ (0 : Int) < _; omega
theorem words_back {tw : List Int} {ws : List WEdit} {r : List Int} (hw : wordsOk (-1) ws = true) (it : ∀ x ∈ tw, isW x) (iw : ∀ w ∈ ws, rngW w) (h : wsD tw ws tw = some r) : ∃ v, wsD r (ws.map turnW) r = some v ∧ EqvW v tw := by
  rw [wsD_mg] at h
  obtain ⟨a1, a2⟩ := mg_get (by omega) (words_asc hw) h
  have key : ∀ w ∈ ws, (if mix 0 (r.getD (turnW w).at_.toNat 0) (turnW w).mask = (turnW w).old then some (mix (r.getD (turnW w).at_.toNat 0) (turnW w).new (turnW w).mask) else none) = some (tw.getD w.at_.toNat 0) := by
    intro w hm
    obtain ⟨v, hv, hr⟩ := a1 w hm
    split at hv
    · rename_i c
      cases hv
      have ok := wordsOk_all hw w hm
      show (if mix 0 (r.getD w.at_.toNat 0) w.mask = w.new then some (mix (r.getD w.at_.toNat 0) w.old w.mask) else none) = _
      rw [hr, mix_back1 (iw w hm).2.2.2 ok.2.2.2.2, if_pos rfl, mix_back2 (word_at it _) c]
    · cases hv
  have hw' : wordsOk (-1) (ws.map turnW) = true := by rw [wordsOk_turn]; exact hw
  obtain ⟨v, hv⟩ := mg_some (z := 0) (p := WEdit.at_) (out := r) (f := fun w => if mix 0 (r.getD w.at_.toNat 0) w.mask = w.old then some (mix (r.getD w.at_.toNat 0) w.new w.mask) else none) (ws := ws.map turnW) (fun w hm => by
    obtain ⟨x, hx, rfl⟩ := List.mem_map.1 hm
    exact ⟨_, key x hx⟩)
  obtain ⟨b1, b2⟩ := mg_get (by omega) (words_asc hw') hv
  refine ⟨v, by rw [wsD_mg]; exact hv, fun i => ?_⟩
  by_cases hi : ∃ w ∈ ws, w.at_.toNat = i
  · obtain ⟨w, hm, rfl⟩ := hi
    obtain ⟨y, hy, hr⟩ := b1 (turnW w) (List.mem_map_of_mem hm)
    have := key w hm
    rw [this] at hy
    cases hy
    exact hr
  · have h1 : ∀ w ∈ ws, w.at_.toNat ≠ i := fun w hm e => hi ⟨w, hm, e⟩
    rw [b2 i (fun w hm => by obtain ⟨x, hx, rfl⟩ := List.mem_map.1 hm; exact h1 x hx), a2 i h1]
theorem turnKs_mem : ∀ {ks : List Kid} {k : Kid}, k ∈ turnKs ks → ∃ q ∈ ks, k = turnKid q
  | [], k, h => by cases h
  | a :: r, k, h => by
    rw [turnKs] at h
    rcases List.mem_cons.1 h with rfl | h
    · exact ⟨a, List.mem_cons_self, rfl⟩
    · obtain ⟨q, hq, e⟩ := turnKs_mem h
      exact ⟨q, List.mem_cons_of_mem _ hq, e⟩
theorem mem_turnKs : ∀ {ks : List Kid} {k : Kid}, k ∈ ks → turnKid k ∈ turnKs ks
  | [], k, h => by cases h
  | a :: r, k, h => by
    rw [turnKs]
    rcases List.mem_cons.1 h with rfl | h
    · exact List.mem_cons_self
    · exact List.mem_cons_of_mem _ (mem_turnKs h)
theorem turnKid_parts (k : Kid) : (turnKid k).at_ = k.at_ ∧ (turnKid k).e = turnE k.e := by cases k; exact ⟨rfl, rfl⟩
theorem kids_back {tk : List Tree} {ks : List Kid} {r : List Tree} {d : Int} (hk : rightKs (-1) ks d = true) (h : doKs false tk ks tk = some r)
    (ih : ∀ k ∈ ks, ∀ u, doE false k.e (tk.getD k.at_.toNat Tree.nil) = some u → ∃ v, doE false (turnE k.e) u = some v ∧ Eqv v (tk.getD k.at_.toNat Tree.nil)) : ∃ v, doKs false r (turnKs ks) r = some v ∧ EqvS v tk := by
  rw [doKs_mg] at h
  obtain ⟨a1, a2⟩ := mg_get (by omega) (kids_asc hk) h
  have key : ∀ k ∈ ks, ∃ v, doKid false r (turnKid k) = some v ∧ Eqv v (tk.getD k.at_.toNat Tree.nil) := by
    intro k hm
    obtain ⟨u, hu, hr⟩ := a1 k hm
    rw [doKid_at] at hu
    obtain ⟨v, hv, he⟩ := ih k hm u hu
    refine ⟨v, ?_, he⟩
    rw [doKid_at, (turnKid_parts k).1, (turnKid_parts k).2, hr]
    exact hv
  have hk' := rightKs_turn ks _ _ hk
  obtain ⟨v, hv⟩ := mg_some (z := Tree.nil) (p := KidOf.at_) (out := r) (f := doKid false r) (ws := turnKs ks) (fun k hm => by
    obtain ⟨q, hq, rfl⟩ := turnKs_mem hm
    obtain ⟨v, hv, _⟩ := key q hq
    exact ⟨v, hv⟩)
  obtain ⟨b1, b2⟩ := mg_get (by omega) (kids_asc hk') hv
  refine ⟨v, by rw [doKs_mg]; exact hv, fun i => ?_⟩
  by_cases hi : ∃ k ∈ ks, k.at_.toNat = i
  · obtain ⟨k, hm, rfl⟩ := hi
    obtain ⟨y, hy, hr⟩ := b1 (turnKid k) (mem_turnKs hm)
    obtain ⟨x, hx, he⟩ := key k hm
    rw [hx] at hy
    cases hy
    rw [(turnKid_parts k).1] at hr
    rw [hr]
    exact he
  · have h1 : ∀ k ∈ ks, k.at_.toNat ≠ i := fun k hm e => hi ⟨k, hm, e⟩
    rw [b2 i (fun k hm => by obtain ⟨q, hq, rfl⟩ := turnKs_mem hm; rw [(turnKid_parts q).1]; exact h1 q hq), a2 i h1]
    exact rfl
theorem turnOp_0 (n : Int) (l : List Tree) (e : Edit) : turnOp ⟨0, n, l, e⟩ = ⟨0, n, l, e⟩ := rfl
theorem turnOp_1 (n : Int) (l : List Tree) (e : Edit) : turnOp ⟨1, n, l, e⟩ = ⟨2, n, l, e⟩ := rfl
theorem turnOp_2 (n : Int) (l : List Tree) (e : Edit) : turnOp ⟨2, n, l, e⟩ = ⟨1, n, l, e⟩ := rfl
theorem turnOp_3 (n : Int) (l : List Tree) (e : Edit) : turnOp ⟨3, n, l, e⟩ = ⟨3, n, l, turnE e⟩ := rfl
mutual
theorem turn_do : ∀ (e : Edit) (d : Int) (t u : Tree), rightE e d = true → rngE e → RT_ t → doE false e t = some u → ∃ v, doE false (turnE e) u = some v ∧ Eqv v t
  | .mk k o n w ks l os, d, t, u, hr, he, ht, h => by
    have ri := rightE_all hr
    have h1 := turn_doKs ks
    have h2 := turn_doOs os
    have hkid := ht.kids
    have hta := rng_at' ht.2
    have hea : (∀ x ∈ w, rngW x) ∧ rngKs ks ∧ rngOs os := by simp only [rngE] at he; exact ⟨he.2.2.2.1, he.2.2.2.2.2.1, he.2.2.2.2.2.2⟩
    rw [doE_raw, nrD_false] at h
    unfold rawE at h
    simp only [turnE]
    have hraw : ∀ u : Tree, rawE false (.mk k n o (w.map turnW) (turnKs ks) l (turnOs os)) u = if k = 0 then some u else if k = 1 then (if sameT (normT n) (normT u) = true then some o else none) else if k = 2 then (if u.kind = 1 then (wsD u.words (w.map turnW) u.words).bind fun a => (doKs false u.kids (turnKs ks) u.kids).map fun b => .mk 1 a b else none) else if k = 3 then (if u.kind = l then (endD (doOs false (turnOs os) u.kids [])).map fun b => .mk l [] b else none) else none := fun _ => rfl
    have fin : ∀ x v, x = some v → Eqv v t → rawE false (.mk k n o (w.map turnW) (turnKs ks) l (turnOs os)) u = x → ∃ v, doE false (.mk k n o (w.map turnW) (turnKs ks) l (turnOs os)) u = some v ∧ Eqv v t := by
      rintro x v rfl hv hx
      exact ⟨v, by rw [doE_raw, nrD_false]; exact hx, hv⟩
    split at h
    · rename_i c
      cases h
      refine fin _ t rfl rfl ?_
      replace c : k = 0 := c
      rw [hraw, if_pos c]
    · rename_i c0
      replace c0 : ¬ k = 0 := c0
      split at h
      · rename_i c1
        replace c1 : k = 1 := c1
        split at h
        · rename_i c
          cases h
          refine fin _ o rfl (sameT_true.1 c) ?_
          rw [hraw, if_neg c0, if_pos c1]
          show (if sameT (normT n) (normT n) = true then some o else none) = some o
          rw [sameT_self]
          rfl
        · cases h
      · rename_i c1
        replace c1 : ¬ k = 1 := c1
        split at h
        · rename_i c2
          replace c2 : k = 2 := c2
          split at h
          · rename_i c
            obtain ⟨a, ha, hb⟩ := Option.bind_eq_some_iff.1 h
            obtain ⟨b, hb2, e⟩ := Option.map_eq_some_iff.1 hb
            obtain ⟨va, hva, ea⟩ := words_back ri.words hta.2.1 hea.1 ha
            obtain ⟨vb, hvb, eb⟩ := kids_back ri.kids hb2 (fun q hq x hx => h1 (d - 1) q hq _ x (rightKs_all ri.kids q hq).2 hea.2.1 (RT_get hkid.1 _) hx)
            subst e
            refine fin _ (.mk 1 va vb) rfl ((eqv_struct rfl c).2 ⟨ea, eb⟩) ?_
            rw [hraw, if_neg c0, if_neg c1, if_pos c2, if_pos (show (Tree.mk 1 a b).kind = 1 from rfl)]
            have q1 : wsD a (w.map turnW) a = some va := hva
            have q2 : doKs false b (turnKs ks) b = some vb := hvb
            show ((wsD a (w.map turnW) a).bind fun a_1 => (doKs false b (turnKs ks) b).map fun b_1 => Tree.mk 1 a_1 b_1) = _
            rw [q1, Option.bind_some, q2]
            rfl
          · cases h
        · rename_i c2
          replace c2 : ¬ k = 2 := c2
          split at h
          · rename_i c3
            replace c3 : k = 3 := c3
            split at h
            · rename_i c
              obtain ⟨b, hb, e⟩ := Option.map_eq_some_iff.1 h
              unfold endD at hb
              obtain ⟨x, hx, hy⟩ := Option.bind_eq_some_iff.1 hb
              split at hy
              · rename_i z0
                cases hy
                subst e
                obtain ⟨X, e1, hX⟩ := h2 (d - 1) t.kids [] x (fun q hq => ⟨_, Go.AM.rightOs_mem ri.ops q hq⟩) hea.2.2 hkid.1 hx
                obtain ⟨Y, hY, e2⟩ := hX [] []
                have hl : 2 ≤ l ∧ l ≤ 9 := ri.list c3
                have c : t.kind = l := c
                rw [List.nil_append] at e1
                rw [List.append_nil, ← e1, List.nil_append] at hY
                rw [List.eq_nil_of_length_eq_zero z0] at e2
                refine fin _ (.mk l [] Y) rfl ((eqv_list (a := .mk l [] Y) (by show l ≠ 0; omega) (by show l ≠ 1; omega)).2 ⟨c.symm, (hkid.2 (by omega) (by omega) (by omega)).symm, by show normsT Y = normsT t.kids; rw [← e2]; simp [normsT]⟩) ?_
                rw [hraw, if_neg c0, if_neg c1, if_neg c2, if_pos c3, if_pos (show (Tree.mk (Edit.mk k o n w ks l os).list [] x.1).kind = l from rfl)]
                show (endD (doOs false (turnOs os) x.1 [])).map (fun b => Tree.mk l [] b) = _
                rw [hY]
                rfl
              · cases hy
            · cases h
          · cases h
theorem turn_doKs : ∀ (ks : List (KidOf Edit)) (d : Int), ∀ k ∈ ks, ∀ (t u : Tree), rightE k.e d = true → rngKs ks → RT_ t → doE false k.e t = some u → ∃ v, doE false (turnE k.e) u = some v ∧ Eqv v t
  | [], d, k, hk => by cases hk
  | ⟨a, e⟩ :: r, d, k, hk => by
    have h1 := turn_do e d
    have h2 := turn_doKs r d
    intro t u hr hg ht h
    simp only [rngKs, rngKid] at hg
    rcases List.mem_cons.1 hk with rfl | hk
    · exact h1 t u hr hg.1.2 ht h
    · exact h2 k hk t u hr hg.2 ht h
theorem turn_doOs : ∀ (os : List (OpOf Edit)) (d : Int) (rest out : List Tree) (x : List Tree × List Tree), (∀ o ∈ os, ∃ l, rightOp l o d = true) → rngOs os → (∀ t ∈ rest, RT_ t) → doOs false os rest out = some x →
    ∃ X, x.1 = out ++ X ∧ ∀ z out2, ∃ Y, doOs false (turnOs os) (X ++ z) out2 = some (out2 ++ Y, z) ∧ normsT Y ++ normsT x.2 = normsT rest
  | [], d, rest, out, x, _, _, _, h => by
    rw [doOs] at h
    cases h
    exact ⟨[], by simp, fun z out2 => ⟨[], by rw [turnOs, doOs]; simp, by simp [normsT]⟩⟩
  | o :: s, d, rest, out, x, hr, hg, ht, h => by
    rw [doOs] at h
    obtain ⟨y, hy, hx⟩ := Option.bind_eq_some_iff.1 h
    simp only [rngOs] at hg
    obtain ⟨X0, e0, h0⟩ := turn_doOp o d rest out y (hr o List.mem_cons_self) hg.1 ht hy
    have hsuf : ∀ t ∈ y.2, RT_ t := by
      obtain ⟨m, hm⟩ := doOs_suffix (os := [o]) (by rw [doOs_one]; exact hy)
      rw [hm]
      exact fun t h => ht t (List.mem_of_mem_drop h)
    obtain ⟨X1, e1, h1⟩ := turn_doOs s d y.2 y.1 x (fun q hq => hr q (List.mem_cons_of_mem _ hq)) hg.2 hsuf hx
    refine ⟨X0 ++ X1, by rw [e1, e0, List.append_assoc], fun z out2 => ?_⟩
    obtain ⟨Y0, p0, q0⟩ := h0 (X1 ++ z) out2
    obtain ⟨Y1, p1, q1⟩ := h1 z (out2 ++ Y0)
    refine ⟨Y0 ++ Y1, ?_, ?_⟩
    · rw [turnOs, doOs, List.append_assoc, p0, Option.bind_some, p1, List.append_assoc]
    · rw [normsT_append, List.append_assoc, q1, q0]
theorem turn_doOp : ∀ (o : OpOf Edit) (d : Int) (rest out : List Tree) (y : List Tree × List Tree), (∃ l, rightOp l o d = true) → rngOp o → (∀ t ∈ rest, RT_ t) → doOp false o rest out = some y →
    ∃ X, y.1 = out ++ X ∧ ∀ z out2, ∃ Y, doOp false (turnOp o) (X ++ z) out2 = some (out2 ++ Y, z) ∧ normsT Y ++ normsT y.2 = normsT rest
  | ⟨k, n, l, e⟩, d, rest, out, y, ⟨li, hr⟩, hg, ht, h => by
    have ie := turn_do e d (rest.getD 0 Tree.nil)
    have r1 := rightOp_facts' hr
    simp only [rngOp] at hg
    rw [doOp] at h
    split at h
    · rename_i c
      subst c
      split at h
      · rename_i c
        cases h
        refine ⟨rest.take n.toNat, rfl, fun z out2 => ⟨rest.take n.toNat, ?_, ?_⟩⟩
        · have hl : (rest.take n.toNat).length = n.toNat := by rw [List.length_take]; omega
          rw [turnOp_0, doOp, if_pos rfl, if_pos (by rw [List.length_append]; omega), List.take_left' hl, List.drop_left' hl]
        · rw [← normsT_append, List.take_append_drop]
      · cases h
    · rename_i c0
      split at h
      · rename_i c
        subst c
        split at h
        · rename_i c
          cases h
          refine ⟨[], by simp, fun z out2 => ⟨l, ?_, ?_⟩⟩
          · rw [turnOp_1, doOp, if_neg (by omega), if_neg (by omega), if_pos rfl]
            rfl
          · rw [((goneD_iff l rest).1 c).2, ← normsT_append, List.take_append_drop]
        · cases h
      · rename_i c1
        split at h
        · rename_i c
          subst c
          cases h
          refine ⟨l, rfl, fun z out2 => ⟨[], ?_, by simp [normsT]⟩⟩
          have hg2 : goneD l (l ++ z) = true := by rw [goneD_iff]; exact ⟨by simp, by rw [List.take_left' rfl]⟩
          rw [turnOp_2, doOp, if_neg (by omega), if_pos rfl, if_pos hg2, List.drop_left' rfl, List.append_nil]
        · rename_i c2
          split at h
          · cases h
          · rename_i z0
            have hk : k = 3 := by rcases r1 with h | h | h | h <;> first | exact absurd h c0 | exact absurd h c1 | exact absurd h c2 | exact h
            subst hk
            obtain ⟨u, hu, ey⟩ := Option.map_eq_some_iff.1 h
            cases ey
            obtain ⟨v, hv, hev⟩ := ie u (right_desc hr rfl) hg.2.2.2 (RT_get ht 0) hu
            refine ⟨[u], rfl, fun z out2 => ⟨[v], ?_, ?_⟩⟩
            · rw [turnOp_3, doOp, if_neg (by omega), if_neg (by omega), if_neg (by omega), if_neg (by simp)]
              show (doE false (turnE e) u).map _ = _
              rw [hv]
              rfl
            · cases rest with
              | nil => exact absurd rfl z0
              | cons a q =>
                show normsT ([v] ++ q) = normsT (a :: q)
                simp only [normsT, List.cons_append, List.nil_append, List.map_cons]
                rw [show normT v = normT a from hev]
end
end Go.AM.YtpjenobkibfpcaaGreat

namespace Go.AM.YtpjenobkibfpcaaGreat
open Go.AM Go.Proofs
inductive Run : List Op → List Tree → List Tree → Prop
  | nil : Run [] [] []
  | keep {o r a s d} : o.kind = 0 → (a.length : Int) = o.n → Run r s d → Run (o :: r) (a ++ s) (a ++ d)
  | gone {o r a s d} : o.kind = 1 → normsT o.l = normsT a → Run r s d → Run (o :: r) (a ++ s) d
  | come {o r s d} : o.kind = 2 → Run r s d → Run (o :: r) s (o.l ++ d)
  | into {o r x y s d} : o.kind = 3 → doE false o.e x = some y → Run r s d → Run (o :: r) (x :: s) (y :: d)
end Go.AM.YtpjenobkibfpcaaGreat

namespace Go.AM
def widN (m : Nat) : Nat → Nat
  | 0 => 0
  | i + 1 => widN m i + if m / 2 ^ i % 2 = 1 then 255 * 2 ^ (8 * i) else 0
def widW : Nat → Nat → Nat
  | 0, _ => 0
  | k + 1, m => (if m % 2 = 1 then 255 else 0) + 256 * widW k (m / 2)
def pickW : Nat → Nat → Nat → Nat
  | 0, _, _ => 0
  | k + 1, a, m => (if m % 2 = 1 then a % 256 else 0) + 256 * pickW k (a / 256) (m / 2)
def mixW : Nat → Nat → Nat → Nat → Nat
  | 0, _, _, _ => 0
  | k + 1, a, b, m => (if m % 2 = 1 then b % 256 else a % 256) + 256 * mixW k (a / 256) (b / 256) (m / 2)
theorem and_split (x y u v : Nat) (hu : u < 256) (hv : v < 256) : (u + 256 * x) &&& (v + 256 * y) = (u &&& v) + 256 * (x &&& y) := by
  have h : u &&& v < 256 := Nat.and_lt_two_pow (n := 8) u hv
  apply Nat.eq_of_testBit_eq
  intro j
  rw [Nat.add_comm u, Nat.add_comm v, Nat.add_comm (u &&& v), Nat.testBit_and]
  rw [show (256 : Nat) = 2 ^ 8 from rfl, Nat.testBit_two_pow_mul_add _ hu, Nat.testBit_two_pow_mul_add _ hv, Nat.testBit_two_pow_mul_add _ h]
  split <;> rw [Nat.testBit_and]
theorem or_split (x y u v : Nat) (hu : u < 256) (hv : v < 256) : (u + 256 * x) ||| (v + 256 * y) = (u ||| v) + 256 * (x ||| y) := by
  have h : u ||| v < 256 := Nat.or_lt_two_pow (n := 8) hu hv
  apply Nat.eq_of_testBit_eq
  intro j
  rw [Nat.add_comm u, Nat.add_comm v, Nat.add_comm (u ||| v), Nat.testBit_or]
  rw [show (256 : Nat) = 2 ^ 8 from rfl, Nat.testBit_two_pow_mul_add _ hu, Nat.testBit_two_pow_mul_add _ hv, Nat.testBit_two_pow_mul_add _ h]
  split <;> rw [Nat.testBit_or]
theorem and_wide : ∀ (k a m : Nat), a &&& widW k m = pickW k a m
  | 0, a, m => by simp [widW, pickW]
  | k + 1, a, m => by
    have e : a = a % 256 + 256 * (a / 256) := by omega
    simp only [widW, pickW]
    rw [← and_wide k (a / 256) (m / 2)]
    have h : a &&& ((if m % 2 = 1 then 255 else 0) + 256 * widW k (m / 2)) = (a % 256 + 256 * (a / 256)) &&& ((if m % 2 = 1 then 255 else 0) + 256 * widW k (m / 2)) := by rw [← e]
    rw [h, and_split _ _ _ _ (by omega) (by split <;> omega)]
    congr 1
    split
    · have := Nat.and_two_pow_sub_one_eq_mod (a % 256) 8
      simp only [show (2 : Nat) ^ 8 - 1 = 255 from rfl, show (2 : Nat) ^ 8 = 256 from rfl, Nat.mod_mod] at this
      exact this
    · simp
theorem or_pick : ∀ (k a b m n : Nat), (∀ i < k, m / 2 ^ i % 2 + n / 2 ^ i % 2 = 1) → pickW k a n ||| pickW k b m = mixW k a b m
  | 0, a, b, m, n, _ => by simp [pickW, mixW]
  | k + 1, a, b, m, n, h => by
    simp only [pickW, mixW]
    have h0 := h 0 (by omega)
    simp only [Nat.pow_zero, Nat.div_one] at h0
    rw [or_split _ _ _ _ (by split <;> omega) (by split <;> omega), or_pick k (a / 256) (b / 256) (m / 2) (n / 2) (fun i hi => by
      have := h (i + 1) (by omega)
      rw [Nat.div_div_eq_div_mul, Nat.div_div_eq_div_mul]
      rw [Nat.pow_succ, Nat.mul_comm] at this
      exact this)]
    congr 1
    by_cases hm : m % 2 = 1
    · rw [if_pos hm, if_pos hm, if_neg (by omega)]; simp
    · rw [if_neg hm, if_neg hm, if_pos (by omega)]; simp
theorem widN_eq : ∀ m : Fin 256, widN m.1 8 = widW 8 m.1 := by decide +kernel
theorem widW_not : ∀ m : Fin 256, 2 ^ 64 - 1 - widW 8 m.1 = widW 8 (255 - m.1) := by decide +kernel
theorem bits_not : ∀ m : Fin 256, ∀ i : Fin 8, m.1 / 2 ^ i.1 % 2 + (255 - m.1) / 2 ^ i.1 % 2 = 1 := by decide +kernel
theorem widW_lt : ∀ m : Fin 256, widW 8 m.1 < 2 ^ 64 := by decide +kernel
theorem mix_bits (a b m : Nat) (hm : m < 256) : (a &&& (2 ^ 64 - 1 - widN m 8)) ||| (b &&& widN m 8) = mixW 8 a b m := by
  have h1 := widN_eq ⟨m, hm⟩
  have h2 := widW_not ⟨m, hm⟩
  simp only at h1 h2
  rw [h1, h2, and_wide, and_wide]
  exact or_pick 8 a b m (255 - m) (fun i hi => bits_not ⟨m, hm⟩ ⟨i, hi⟩)
def ofK : Nat → (Nat → Nat) → Nat
  | 0, _ => 0
  | k + 1, f => f 0 + 256 * ofK k (fun i => f (i + 1))
theorem ofK_congr : ∀ (k : Nat) {f g : Nat → Nat}, (∀ i, f i = g i) → ofK k f = ofK k g
  | 0, _, _, _ => rfl
  | k + 1, f, g, h => by simp only [ofK, h 0, ofK_congr k (fun i => h (i + 1))]
theorem mixW_of : ∀ (k a b m : Nat), mixW k a b m = ofK k (fun i => if m / 2 ^ i % 2 = 1 then b / 256 ^ i % 256 else a / 256 ^ i % 256)
  | 0, _, _, _ => rfl
  | k + 1, a, b, m => by
    simp only [mixW, ofK, Nat.pow_zero, Nat.div_one]
    rw [mixW_of k, ofK_congr k (g := fun i => if m / 2 ^ (i + 1) % 2 = 1 then b / 256 ^ (i + 1) % 256 else a / 256 ^ (i + 1) % 256) (fun i => ?_)]
    rw [Nat.div_div_eq_div_mul, Nat.div_div_eq_div_mul, Nat.div_div_eq_div_mul, Nat.pow_succ', Nat.pow_succ']
theorem mixW_mix (a b m : Nat) : ((mixW 8 a b m : Nat) : Int) = mix a b m := by
  have nm : ∀ i : Nat, named (m : Int) (i : Int) = decide (m / 2 ^ i % 2 = 1) := by
    intro i
    unfold named
    rw [decide_eq_decide, Int.toNat_natCast]
    have : ((m : Int) / 2 ^ i % 2 : Int) = ((m / 2 ^ i % 2 : Nat) : Int) := by rw [Int.natCast_emod, Int.natCast_ediv, Int.natCast_pow]; rfl
    rw [this]; omega
  have by_ : ∀ (x i : Nat), byteAt (x : Int) i = ((x / 256 ^ i % 256 : Nat) : Int) := by
    intro x i
    unfold byteAt
    rw [Int.natCast_emod, Int.natCast_ediv, Int.natCast_pow]
    rfl
  have mx : ∀ i : Nat, mixAt (a : Int) (b : Int) (m : Int) i = ((if m / 2 ^ i % 2 = 1 then b / 256 ^ i % 256 else a / 256 ^ i % 256 : Nat) : Int) := by
    intro i
    unfold mixAt
    rw [nm, by_, by_]
    by_cases h : m / 2 ^ i % 2 = 1
    · rw [decide_eq_true h, if_pos rfl, if_pos h]
    · rw [decide_eq_false h, if_neg Bool.false_ne_true, if_neg h]
  rw [mixW_of]
  generalize hf : (fun i => if m / 2 ^ i % 2 = 1 then b / 256 ^ i % 256 else a / 256 ^ i % 256) = f
  have hx : ∀ i, mixAt (a : Int) (b : Int) (m : Int) i = (f i : Int) := by intro i; rw [mx, ← hf]
  have e : ofK 8 f = f 0 + 256 * (f 1 + 256 * (f 2 + 256 * (f 3 + 256 * (f 4 + 256 * (f 5 + 256 * (f 6 + 256 * (f 7 + 256 * 0))))))) := rfl
  rw [e]
  simp only [mix, of8, hx]
  omega
def withinB (list : Int) (e : Edit) : Bool :=
  if (2 ≤ list ∧ list ≤ 7) ∨ e.kind = 0 then false else if list = 8 ∨ e.kind = 2 then true else decide (e.kind = 1 ∧ e.old.kind = 1 ∧ e.new.kind = 1)
end Go.AM

namespace Go.AM
def reOk (e : Edit) : Prop := ctE e ≤ 9000000000 ∧ rngE e ∧ ∃ d, rightE e d = true
end Go.AM

namespace Go.AM.YtpjenobkibfpcaaGreat
open Go.AM Go.Proofs
theorem turn_fwd {e : Edit} {d : Int} {x y l : Tree} (hr : rightE e d = true) (he : rngE e) (hx : RT_ x) (hl : RT_ l) (h : doE false e x = some y) (hy : Eqv y l) : ∃ z, doE false (nrmE (turnE e)) l = some z ∧ Eqv z x := by
  obtain ⟨v, hv, hvx⟩ := turn_do e d x y hr he hx h
  have h1 := doE_eqv (turnE e) d y l (rightE_turn e d hr) hy
  have h2 := nrm_do (turnE e) d l (rightE_turn e d hr) hl
  rw [hv] at h1
  cases hw : doE false (turnE e) l with
  | none => rw [hw] at h1; exact h1.elim
  | some w =>
    rw [hw] at h1 h2
    cases hz : doE false (nrmE (turnE e)) l with
    | none => rw [hz] at h2; exact h2.elim
    | some z =>
      rw [hz] at h2
      have h1 : Eqv v w := h1
      have h2 : Eqv z w := h2
      exact ⟨z, rfl, h2.trans (h1.symm.trans hvx)⟩
end Go.AM.YtpjenobkibfpcaaGreat

namespace Go.AM.YtpjenobkibfpcaaGreat
open Go.AM Go.Proofs
theorem do_2 {e : Edit} (h : e.kind = 2) (t : Tree) : doE false e t = if t.kind = 1 then (wsD t.words e.words t.words).bind fun a => (doKs false t.kids e.kids t.kids).map fun b => .mk 1 a b else none := by
  rw [doE_at, nrD_false, if_neg (by omega), if_neg (by omega), if_pos h]
theorem do_2m (w : List WEdit) (ks : List Kid) (t : Tree) : doE false (.mk 2 Tree.nil Tree.nil w ks 0 []) t = if t.kind = 1 then (wsD t.words w t.words).bind fun a => (doKs false t.kids ks t.kids).map fun b => .mk 1 a b else none := do_2 rfl t
end Go.AM.YtpjenobkibfpcaaGreat

namespace Go.AM.YtpjenobkibfpcaaGreat
open Go.AM Go.Proofs
structure Alike (c r : Edit × Bool) : Prop where
  ok : c.2 = r.2
  nrm : c.2 = true → nrmE c.1 = nrmE r.1
end Go.AM.YtpjenobkibfpcaaGreat

namespace Go.AM.YtpjenobkibfpcaaGreat
open Go.AM Go.Proofs
section
variable {g : Edit → Edit → Edit × Bool}
end
theorem nrmE_2 (w : List WEdit) (a : List Kid) : nrmE (.mk 2 Tree.nil Tree.nil w a 0 []) = .mk 2 Tree.nil Tree.nil w (nrmKs a) 0 [] := by rw [nrmE, if_neg (by decide), if_pos rfl]
end Go.AM.YtpjenobkibfpcaaGreat

namespace Go.AM.YtpjenobkibfpcaaGreat
open Go.AM Go.Proofs
theorem ctE_18 (e : Edit) : 18 ≤ ctE e := by
  have := ctE_at e
  have := mass_pos e.old
  have := mass_pos e.new
  omega
mutual
theorem ct_turn : ∀ (e : Edit), ctE (turnE e) = ctE e
  | .mk k o n w ks l os => by
    have h1 := ct_turnKs ks
    have h2 := ct_turnOs os
    simp only [turnE, ctE, List.length_map]
    omega
theorem ct_turnKs : ∀ (ks : List (KidOf Edit)), ctKs (turnKs ks) = ctKs ks
  | [] => rfl
  | k :: r => by
    have h1 := ct_turnKid k
    have h2 := ct_turnKs r
    simp only [turnKs, ctKs]
    omega
theorem ct_turnKid : ∀ (k : KidOf Edit), ctKid (turnKid k) = ctKid k
  | ⟨a, e⟩ => by
    have := ct_turn e
    simp only [turnKid, ctKid]
    omega
theorem ct_turnOs : ∀ (os : List (OpOf Edit)), ctOs (turnOs os) = ctOs os
  | [] => rfl
  | o :: r => by
    have h1 := ct_turnOp o
    have h2 := ct_turnOs r
    simp only [turnOs, ctOs]
    omega
theorem ct_turnOp : ∀ (o : OpOf Edit), ctOp (turnOp o) = ctOp o
  | ⟨k, n, l, e⟩ => by
    have := ct_turn e
    rw [turnOp_at]
    dsimp only
    split
    · rfl
    · split
      · rfl
      · split
        · simp only [ctOp]; omega
        · rfl
end
theorem ctOs_app : ∀ (a b : List Op), ctOs (a ++ b) = ctOs a + ctOs b
  | [], b => by simp [ctOs]
  | o :: r, b => by simp only [List.cons_append, ctOs, ctOs_app r b]; omega
def ctW (w : Wst) : Nat := ctOs w.out + (massK w.gone + if w.gone.length = 0 then 0 else 34) + (massK w.brought + if w.brought.length = 0 then 0 else 34)
theorem ct_nil : ctE Edit.nil = 18 := rfl
theorem ct_flush (w : Wst) : ctOs (flushW w).out = ctW w := by
  simp only [flushW, flushO, ctW, ctOs_app]
  by_cases h1 : w.gone.length = 0
  · rw [if_pos h1, if_pos h1, List.eq_nil_of_length_eq_zero h1]
    by_cases h2 : w.brought.length = 0
    · rw [if_pos h2, if_pos h2, List.eq_nil_of_length_eq_zero h2]; simp [ctOs, massK]
    · rw [if_neg h2, if_neg h2]; simp only [ctOs, ctOp, ct_nil, massK]; omega
  · rw [if_neg h1, if_neg h1]
    by_cases h2 : w.brought.length = 0
    · rw [if_pos h2, if_pos h2, List.eq_nil_of_length_eq_zero h2]; simp only [ctOs, ctOp, ct_nil, massK]; omega
    · rw [if_neg h2, if_neg h2]; simp only [ctOs, ctOp, ct_nil]; omega
theorem ct_keep (w : Wst) (n : Int) : ctW (keepW w n) ≤ ctW w + 34 := by
  have h := ct_flush w
  have e : ctW (keepW w n) = ctOs (keepO (flushW w).out n) := by simp [keepW, ctW, massK]
  rw [e, ← h]
  rcases keepO_cases (flushW w).out n with e | ⟨a, q, e1, _, e3⟩
  · rw [e, ctOs_app]; simp only [ctOs, ctOp, ct_nil, massK]; omega
  · rw [e3, e1, ctOs_app, ctOs_app]; simp only [ctOs, ctOp, ctOp_at]; omega
mutual
theorem ct_nrm : ∀ (e : Edit), ctE (nrmE e) ≤ ctE e
  | .mk k o n w ks l os => by
    have h1 := ct_nrmKs ks
    have h2 := ct_nrmOs l os ⟨[], [], []⟩
    have h3 := normT_mass o
    have h4 := normT_mass n
    have := mass_pos o
    have := mass_pos n
    have hf := ct_flush (nrmOs l os ⟨[], [], []⟩)
    have hz : ctW ⟨[], [], []⟩ = 0 := rfl
    rw [nrmE]
    split
    · simp only [ctE, ctKs, ctOs, List.length_nil]; omega
    · split
      · simp only [ctE, ctOs, mass_nilT]; omega
      · split
        · simp only [ctE, ctKs, mass_nilT, List.length_nil]; omega
        · simp only [ctE, ctKs, ctOs, mass_nilT, List.length_nil]; omega
theorem ct_nrmKs : ∀ (ks : List (KidOf Edit)), ctKs (nrmKs ks) ≤ ctKs ks
  | [] => Nat.le_refl _
  | k :: r => by
    have h1 := ct_nrmKid k
    have h2 := ct_nrmKs r
    simp only [nrmKs, ctKs]
    omega
theorem ct_nrmKid : ∀ (k : KidOf Edit), ctKid (nrmKid k) ≤ ctKid k
  | ⟨a, e⟩ => by
    have := ct_nrm e
    simp only [nrmKid, ctKid]
    omega
theorem ct_nrmOs (list : Int) : ∀ (os : List (OpOf Edit)) (w : Wst), ctW (nrmOs list os w) ≤ ctW w + ctOs os
  | [], w => Nat.le_refl _
  | o :: r, w => by
    have h1 := ct_nrmOp list o w
    have h2 := ct_nrmOs list r (nrmOp list o w)
    simp only [nrmOs, ctOs]
    omega
theorem ct_nrmOp (list : Int) : ∀ (o : OpOf Edit) (w : Wst), ctW (nrmOp list o w) ≤ ctW w + ctOp o
  | ⟨k, n, l, e⟩, w => by
    have he := ct_nrm e
    have h18 := ctE_18 e
    have hl := massK_norms l
    have hc := fun a b => massK_cat a b
    rw [nrmOp]
    simp only [ctOp]
    split
    · have := ct_keep w n; omega
    · split
      · have := massK_cat w.gone (normsT l)
        simp only [ctW]
        split <;> split <;> omega
      · split
        · have := massK_cat w.brought (normsT l)
          simp only [ctW]
          split <;> split <;> split <;> omega
        · split
          · split
            · have := ct_keep w 1; omega
            · have hf := ct_flush w
              show ctOs ((flushW w).out ++ [⟨3, 0, [], nrmE e⟩]) + _ + _ ≤ _
              rw [ctOs_app, hf]
              simp only [ctOs, ctOp, massK, List.length_nil, if_pos]
              omega
          · omega
end
def φA (o : Op) : Int := if o.kind = 2 then 0 else opLen o
def φB (o : Op) : Int := if o.kind = 1 then 0 else opLen o
def φC (o : Op) : Int := massK o.l + ctE o.e - 18
end Go.AM.YtpjenobkibfpcaaGreat

namespace Go.AM.YtpjenobkibfpcaaGreat
open Go.AM Go.Proofs
structure Wk (e : Edit) : Prop where
  r : rightE e (-1) = true
  g : rngE e
theorem isI_n {n : Int} (h0 : 0 ≤ n) (h9 : n ≤ 9) : isI n := by unfold isI; omega
end Go.AM.YtpjenobkibfpcaaGreat

namespace Go.AM.YtpjenobkibfpcaaGreat
open Go.AM Go.Proofs
mutual
def utE : Edit → Nat
  | .mk _ o n w ks _ os => 16 + mass o + mass n + 65600 * w.length + utKs ks + utOs os
def utKs : List (KidOf Edit) → Nat
  | [] => 0
  | k :: r => utKid k + utKs r
def utKid : KidOf Edit → Nat
  | ⟨_, e⟩ => 65600 + utE e
def utOs : List (OpOf Edit) → Nat
  | [] => 0
  | o :: r => utOp o + utOs r
def utOp : OpOf Edit → Nat
  | ⟨k, n, l, e⟩ => if k = 3 then 16 + utE e else 34 * (n.toNat + l.length) + massK l
end
def φU (o : Op) : Int := utOp o
end Go.AM.YtpjenobkibfpcaaGreat
