import Derived.Test.YtpjenobkibfpcaaKP20
import Derived.Test.YtpjenobkibfpcaaKRB07
import Derived.Test.YtpjenobkibfpcaaKD20
set_option linter.unusedSimpArgs false
set_option linter.unusedVariables false
namespace Go.AM.Ytpjenobkibfpcaa
open Go.AM Go.Proofs
theorem setPad_length {α : Type} (z : α) (l : List α) (i : Nat) (x : α) : (setPad z l i x).length = max l.length (i + 1) := by
  simp only [setPad, List.length_set, List.length_append, List.length_replicate]; omega
theorem setPad_getD {α : Type} (z : α) (l : List α) (i : Nat) (x : α) (j : Nat) : (setPad z l i x).getD j z = if j = i then x else l.getD j z := by
  simp only [setPad, List.getD_eq_getElem?_getD, List.getElem?_set, List.length_append, List.length_replicate]
  by_cases h : j = i
  · subst h; rw [if_pos rfl, if_pos rfl, if_pos (by omega)]; rfl
  · rw [if_neg (fun e => h e.symm), if_neg h]
    by_cases hl : j < l.length
    · rw [List.getElem?_append_left hl]
    · rw [List.getElem?_append_right (by omega), List.getElem?_eq_none (l := l) (by omega), List.getElem?_replicate]
      split <;> rfl
theorem norms_app {a b c d : List Tree} (h : normsT a = normsT b) (hx : normsT c = normsT d) : normsT (a ++ c) = normsT (b ++ d) := by
  rw [normsT_append, normsT_append, h, hx]
theorem norms_len {a b : List Tree} (h : normsT a = normsT b) : a.length = b.length := by
  have := congrArg List.length h
  simpa [normsT] using this
theorem norms_one {a b : Tree} : normsT [a] = normsT [b] ↔ normT a = normT b := by simp [normsT]
def EqvL (x y : List Tree) : Prop := normsT x = normsT y
theorem EqvL.take {x y : List Tree} (h : EqvL x y) (n : Nat) : EqvL (x.take n) (y.take n) := by unfold EqvL normsT at *; rw [List.map_take, List.map_take, h]
theorem EqvL.drop {x y : List Tree} (h : EqvL x y) (n : Nat) : EqvL (x.drop n) (y.drop n) := by unfold EqvL normsT at *; rw [List.map_drop, List.map_drop, h]
end Go.AM.Ytpjenobkibfpcaa

namespace Go.AM.Ytpjenobkibfpcaa
open Go.AM Go.Proofs
theorem turnKs_len : ∀ (ks : List Kid), (turnKs ks).length = ks.length
  | [] => rfl
  | k :: r => by simp only [turnKs, List.length_cons, turnKs_len r]
end Go.AM.Ytpjenobkibfpcaa

namespace Go.AM.Ytpjenobkibfpcaa
open Go.AM Go.Proofs
theorem map_eq_getD {α β : Type} {f : α → β} (d : α) {a b : List α} (hl : a.length = b.length) (h : ∀ i : Nat, i < a.length → f (a.getD i d) = f (b.getD i d)) : a.map f = b.map f := by
  apply List.ext_getElem (by simpa using hl)
  intro i h1 h2
  have h1' : i < a.length := by simpa using h1
  have h2' : i < b.length := by simpa using h2
  have := h i h1'
  simpa [List.getD_eq_getElem?_getD, List.getElem?_eq_getElem h1', List.getElem?_eq_getElem h2'] using this
theorem getD_map_eq {α β : Type} {f : α → β} {d : α} {a b : List α} (h : a.map f = b.map f) (i : Nat) : f (a.getD i d) = f (b.getD i d) := by
  have e := congrArg (fun l => l[i]?.getD (f d)) h
  simp only [List.getElem?_map] at e
  rw [List.getD_eq_getElem?_getD, List.getD_eq_getElem?_getD]
  cases h1 : a[i]? <;> cases h2 : b[i]? <;> simp_all
end Go.AM.Ytpjenobkibfpcaa

namespace Go.AM.Ytpjenobkibfpcaa
open Go.AM Go.Proofs
theorem kind_norm (t : Tree) : (normT t).kind = t.kind := by
  obtain ⟨k, w, ks⟩ := t
  simp only [normT]
  by_cases h0 : k = 0
  · rw [if_pos h0, h0]; rfl
  · rw [if_neg h0]
    by_cases h1 : k = 1
    · rw [if_pos h1, h1]; rfl
    · rw [if_neg h1]; rfl
theorem trim_pre : ∀ (l : List Int), ∃ r, l = trim l ++ r
  | [] => ⟨[], rfl⟩
  | x :: r => by
    obtain ⟨s, hs⟩ := trim_pre r
    simp only [trim]
    split
    · rename_i e
      split
      · exact ⟨x :: r, rfl⟩
      · exact ⟨r, rfl⟩
    · rename_i y t e
      rw [e] at hs
      exact ⟨s, by rw [hs]; rfl⟩
theorem trimK_pre : ∀ (l : List Tree), ∃ r, l = trimK l ++ r
  | [] => ⟨[], rfl⟩
  | x :: r => by
    obtain ⟨s, hs⟩ := trimK_pre r
    simp only [trimK]
    split
    · rename_i e
      split
      · exact ⟨x :: r, rfl⟩
      · exact ⟨r, rfl⟩
    · rename_i y t e
      rw [e] at hs
      exact ⟨s, by rw [hs]; rfl⟩
theorem rightK_pre {list d : Int} : ∀ (a b : List Tree), rightK list (a ++ b) d = true → rightK list a d = true
  | [], _, _ => rfl
  | t :: r, b, h => by
    simp only [List.cons_append, rightK, Bool.and_eq_true] at h ⊢
    exact ⟨h.1, rightK_pre r b h.2⟩
theorem normK_length : ∀ (l : List Tree), (normK l).length = l.length
  | [] => rfl
  | t :: r => by simp only [normK, List.length_cons, normK_length r]
theorem kidB_norm {list : Int} {t : Tree} (h : kidB list t = true) : kidB list (normT t) = true := by
  unfold kidB at h ⊢
  rw [kind_norm]
  split at h
  · rename_i hl
    rw [if_pos hl]
    simp only [Bool.and_eq_true, decide_eq_true_eq] at h ⊢
    obtain ⟨⟨h1, h2, h3⟩, h4⟩ := h
    obtain ⟨k, w, ks⟩ := t
    simp only [Tree.kind_mk, Tree.kids_mk, Tree.words_mk] at h1 h2 h3 h4
    have : ks = [] := List.length_eq_zero_iff.1 h2
    subst this
    subst h1
    exact ⟨⟨rfl, rfl, h3⟩, h4⟩
  · rename_i hl
    rw [if_neg hl]
    exact h
mutual
theorem rightT_norm : ∀ (t : Tree) (d : Int), rightT t d = true → rightT (normT t) d = true
  | .mk k w ks, d, h => by
    have ih := fun (list : Int) (h : rightK list ks (d - 1) = true) => rightK_norm ks list (d - 1) h
    simp only [rightT] at h
    simp only [normT]
    by_cases h0 : k = 0
    · rw [if_pos h0]; simp [Tree.nil, rightT]
    · rw [if_neg h0] at h ⊢
      by_cases h10 : k = 10
      · subst h10
        rw [if_pos rfl] at h
        rw [if_neg (by decide)]
        simp only [decide_eq_true_eq] at h
        simp only [rightT]
        rw [if_neg (by decide), if_pos trivial, normK_length]
        simpa using h
      · rw [if_neg h10] at h
        by_cases hd : d = 0
        · rw [if_pos hd] at h; cases h
        · rw [if_neg hd] at h
          by_cases h1 : k = 1
          · subst h1
            rw [if_pos rfl] at h
            rw [if_pos rfl]
            simp only [Bool.and_eq_true, decide_eq_true_eq] at h
            simp only [rightT]
            rw [if_neg (by decide), if_neg (by decide), if_neg hd, if_pos trivial]
            simp only [Bool.and_eq_true, decide_eq_true_eq]
            obtain ⟨r1, e1⟩ := trim_pre w
            obtain ⟨r2, e2⟩ := trimK_pre (normK ks)
            have l1 := congrArg List.length e1
            have l2 := congrArg List.length e2
            rw [normK_length] at l2
            simp only [List.length_append] at l1 l2
            refine ⟨⟨by omega, by omega⟩, ?_⟩
            have := ih 1 h.2
            rw [e2] at this
            exact rightK_pre _ _ this
          · rw [if_neg h1] at h ⊢
            simp only [Bool.and_eq_true, decide_eq_true_eq] at h
            simp only [rightT]
            rw [if_neg h0, if_neg h10, if_neg hd, if_neg h1, normK_length]
            simp only [Bool.and_eq_true, decide_eq_true_eq]
            exact ⟨h.1, ih k h.2⟩
theorem rightK_norm : ∀ (l : List Tree) (list d : Int), rightK list l d = true → rightK list (normK l) d = true
  | [], _, _, _ => rfl
  | t :: r, list, d, h => by
    simp only [rightK, Bool.and_eq_true] at h
    have h1 := rightT_norm t d h.1.2
    have h2 := rightK_norm r list d h.2
    simp only [normK, rightK, Bool.and_eq_true]
    exact ⟨⟨kidB_norm h.1.1, h1⟩, h2⟩
end
end Go.AM.Ytpjenobkibfpcaa

namespace Go.AM.Ytpjenobkibfpcaa
open Go.AM Go.Proofs
theorem turnE_kind (e : Edit) : (turnE e).kind = e.kind := by cases e; rfl
theorem turnE_old (e : Edit) : (turnE e).old = e.new := by cases e; rfl
theorem turnE_new (e : Edit) : (turnE e).new = e.old := by cases e; rfl
theorem wordsOk_turn : ∀ (l : List WEdit) (last : Int), wordsOk last (l.map turnW) = wordsOk last l
  | [], _ => rfl
  | w :: r, last => by
    simp only [List.map_cons, wordsOk, wordsOk_turn r]
    have h1 : (turnW w).at_ = w.at_ := rfl
    have h2 : (turnW w).mask = w.mask := rfl
    have h3 : (turnW w).old = w.new := rfl
    have h4 : (turnW w).new = w.old := rfl
    rw [h1, h2, h3, h4, Bool.and_assoc, Bool.and_assoc, Bool.and_assoc, Bool.and_assoc]
    congr 1
    rw [← Bool.and_assoc, ← Bool.and_assoc, Bool.and_comm (withinW w.new w.mask)]
theorem turnOp_len (o : Op) : opLen (turnOp o) = opLen o ∧ ((turnOp o).kind = 2 ↔ o.kind = 1) ∧ ((turnOp o).kind = 1 ↔ o.kind = 2) := by
  rw [turnOp_at]
  by_cases h1 : o.kind = 1
  · rw [if_pos h1]; simp [opLen, h1]
  · rw [if_neg h1]
    by_cases h2 : o.kind = 2
    · rw [if_pos h2]; simp [opLen, h2]
    · rw [if_neg h2]
      by_cases h3 : o.kind = 3
      · rw [if_pos h3]; simp [opLen, h3]
      · rw [if_neg h3]; simp [opLen, h1, h2]
theorem len_turn : ∀ (l : List Op) (n : Int), lenA (turnOs l) n = lenB l n ∧ lenB (turnOs l) n = lenA l n
  | [], _ => ⟨rfl, rfl⟩
  | o :: r, n => by
    obtain ⟨h1, h2, h3⟩ := turnOp_len o
    simp only [turnOs, lenA, lenB]
    rw [h1]
    constructor
    · rw [(len_turn r _).1]
      congr 2
      by_cases h : o.kind = 1
      · rw [if_pos (h2.2 h), if_pos h]
      · rw [if_neg (fun x => h (h2.1 x)), if_neg h]
    · rw [(len_turn r _).2]
      congr 2
      by_cases h : o.kind = 2
      · rw [if_pos (h3.2 h), if_pos h]
      · rw [if_neg (fun x => h (h3.1 x)), if_neg h]
theorem turnOs_len : ∀ (l : List Op), (turnOs l).length = l.length
  | [] => rfl
  | o :: r => by simp only [turnOs, List.length_cons, turnOs_len r]
theorem op_turn {list d : Int} {o : Op} (h : rightOp list o d = true) (hi : rightE o.e d = true → rightE (turnE o.e) d = true) : rightOp list (turnOp o) d = true := by
  have h' := h
  rw [rightOp_at] at h
  by_cases k0 : o.kind = 0
  · have e : turnOp o = o := by rw [turnOp_at, if_neg (by omega), if_neg (by omega), if_neg (by omega)]
    rw [e]; exact h'
  · rw [if_neg k0] at h
    split at h
    · cases h
    · rename_i hk
      by_cases k3 : o.kind = 3
      · rw [if_neg (by omega)] at h
        have e : turnOp o = ⟨o.kind, o.n, o.l, turnE o.e⟩ := by rw [turnOp_at, if_neg (by omega), if_neg (by omega), if_pos k3]
        rw [e, rightOp_at]
        simp only
        rw [if_neg k0, if_neg hk, if_neg (by omega), turnE_kind, turnE_old, turnE_new]
        simp only [Bool.and_eq_true, decide_eq_true_eq] at h ⊢
        refine ⟨⟨h.1.1, hi h.1.2⟩, ?_⟩
        omega
      · rw [if_pos (by omega)] at h
        have hk' : o.kind = 1 ∨ o.kind = 2 := by omega
        rcases hk' with k | k
        · have e : turnOp o = ⟨2, o.n, o.l, o.e⟩ := by rw [turnOp_at, if_pos k]
          rw [e, rightOp_at]
          simp only
          rw [if_neg (by decide), if_neg (by omega), if_pos (by decide)]
          exact h
        · have e : turnOp o = ⟨1, o.n, o.l, o.e⟩ := by rw [turnOp_at, if_neg (by omega), if_pos k]
          rw [e, rightOp_at]
          simp only
          rw [if_neg (by decide), if_neg (by omega), if_pos (by decide)]
          exact h
mutual
theorem rightE_turn : ∀ (e : Edit) (d : Int), rightE e d = true → rightE (turnE e) d = true
  | .mk k o n w ks l os, d, h => by
    have h1 := rightKs_turn ks
    have h2 := rightOs_turn l os
    simp only [rightE] at h
    simp only [turnE, rightE]
    split at h
    · cases h
    · rename_i a
      rw [if_neg a]
      split at h
      · cases h
      · rename_i b
        rw [if_neg (by rw [List.length_map, turnKs_len, turnOs_len]; intro hc; apply b; rcases hc with x | x | x; exact Or.inl ⟨x.1, fun y => x.2 ⟨y.2, y.1⟩⟩; exact Or.inr (Or.inl x); exact Or.inr (Or.inr x))]
        split at h
        · rename_i c
          rw [if_pos c]
          simp only [Bool.and_eq_true, decide_eq_true_eq] at h ⊢
          exact ⟨⟨h.1.2, h.1.1⟩, h.2.2, h.2.1⟩
        · rename_i c
          rw [if_neg c]
          simp only [Bool.and_eq_true, decide_eq_true_eq] at h ⊢
          obtain ⟨⟨⟨⟨x1, x2⟩, x3⟩, x4⟩, x5⟩ := h
          refine ⟨⟨⟨⟨by rw [wordsOk_turn]; exact x1, h1 _ _ x2⟩, x3⟩, h2 _ x4⟩, ?_⟩
          rw [(len_turn os 0).1, (len_turn os 0).2]
          exact ⟨x5.2, x5.1⟩
theorem rightKs_turn : ∀ (ks : List (KidOf Edit)) (last d : Int), rightKs last ks d = true → rightKs last (turnKs ks) d = true
  | [], _, _, _ => rfl
  | k :: r, last, d, h => by
    simp only [rightKs, Bool.and_eq_true] at h
    have h1 := rightKid_turn k last d h.1
    have h2 := rightKs_turn r k.at_ d h.2
    simp only [turnKs, rightKs, Bool.and_eq_true]
    exact ⟨h1, by rw [turnKid_at]; exact h2⟩
theorem rightKid_turn : ∀ (k : KidOf Edit) (last d : Int), rightKid last k d = true → rightKid last (turnKid k) d = true
  | ⟨a, e⟩, last, d, h => by
    simp only [rightKid, Bool.and_eq_true] at h
    have h1 := rightE_turn e d h.2
    simp only [turnKid, rightKid, Bool.and_eq_true]
    rw [turnE_kind]
    exact ⟨h.1, h1⟩
theorem rightOs_turn (list : Int) : ∀ (os : List (OpOf Edit)) (d : Int), rightOs list os d = true → rightOs list (turnOs os) d = true
  | [], _, _ => rfl
  | o :: r, d, h => by
    simp only [rightOs, Bool.and_eq_true] at h
    have h1 := rightOp_turn list o d h.1
    have h2 := rightOs_turn list r d h.2
    simp only [turnOs, rightOs, Bool.and_eq_true]
    exact ⟨h1, h2⟩
theorem rightOp_turn (list : Int) : ∀ (o : OpOf Edit) (d : Int), rightOp list o d = true → rightOp list (turnOp o) d = true
  | ⟨k, n, l, e⟩, d, h => op_turn (o := ⟨k, n, l, e⟩) h (fun he => rightE_turn e d he)
end
end Go.AM.Ytpjenobkibfpcaa

namespace Go.AM.Ytpjenobkibfpcaa
open Go.AM Go.Proofs
theorem massK_norms : ∀ (l : List Tree), massK (normsT l) ≤ massK l
  | [] => by simp [normsT, massK]
  | t :: r => by
    have h := massK_norms r
    have h2 := normT_mass t
    simp only [normsT] at h
    simp only [normsT, List.map_cons, massK]
    omega
theorem mass_nilT : mass Tree.nil = 1 := by simp [Tree.nil, mass, massK]
end Go.AM.Ytpjenobkibfpcaa

namespace Go.AM.Ytpjenobkibfpcaa
open Go.AM Go.Proofs
theorem nrmE_kind (e : Edit) : (nrmE e).kind = e.kind := by
  rw [nrmE_at]
  split
  · rfl
  · split
    · rfl
    · split <;> rfl
theorem nrmE_old (e : Edit) (h : e.kind = 1) : (nrmE e).old = normT e.old ∧ (nrmE e).new = normT e.new := by
  rw [nrmE_at, if_pos h]
  exact ⟨rfl, rfl⟩
theorem rightT_one {D list : Int} {t : Tree} (hD : D ≠ 0) (h : rightT (.mk list [] [t]) D = true) : rightT (.mk list [] [normT t]) D = true := by
  have key := fun (k d : Int) (h : rightK k [t] d = true) => rightK_norm [t] k d h
  simp only [normK] at key
  simp only [rightT] at h ⊢
  split at h
  · simp at h
  · rename_i h0
    rw [if_neg h0]
    split at h
    · simp at h
    · rename_i h1
      rw [if_neg h1]
      try rw [if_neg hD] at h
      try rw [if_neg hD]
      split at h
      · rename_i h2
        rw [if_pos h2]
        simp only [Bool.and_eq_true] at h ⊢
        exact ⟨h.1, key _ _ h.2⟩
      · rename_i h2
        rw [if_neg h2]
        simp only [Bool.and_eq_true] at h ⊢
        exact ⟨h.1, key _ _ h.2⟩
theorem treesOk_norms {D list : Int} (hD : D ≠ 0) : ∀ {l : List Tree}, treesG D list l = true → treesG D list (normsT l) = true
  | [], _ => rfl
  | t :: r, h => by
    simp only [treesG, Bool.and_eq_true] at h
    have h2 := treesOk_norms hD h.2
    simp only [normsT] at h2
    simp only [normsT, List.map_cons, treesG, Bool.and_eq_true]
    exact ⟨rightT_one hD h.1, h2⟩
theorem treesOk_app {D list : Int} : ∀ {a b : List Tree}, treesG D list a = true → treesG D list b = true → treesG D list (a ++ b) = true
  | [], _, _, h => h
  | t :: r, b, h, h2 => by
    simp only [treesG, Bool.and_eq_true] at h
    simp only [List.cons_append, treesG, Bool.and_eq_true]
    exact ⟨h.1, treesOk_app h.2 h2⟩
def rOp (list : Int) (d : Int) (o : Op) : Prop := (o.kind = 0 → 1 ≤ o.n ∧ o.l.length = 0 ∧ sameE o.e = true) ∧ (o.kind ≠ 0 → rightOp list o d = true)
theorem rOp_of {list d : Int} {o : Op} (h : rightOp list o d = true) : rOp list d o := by
  refine ⟨fun hk => ?_, fun _ => h⟩
  obtain ⟨k, n, l, e⟩ := o
  simp only at hk
  subst hk
  simp only [rightOp, if_true, Bool.and_eq_true, decide_eq_true_eq] at h
  exact ⟨h.1.1, h.1.2.2, h.2⟩
theorem rOp_to {list d : Int} {o : Op} (h : rOp list d o) (hn : o.kind = 0 → o.n ≤ 1048576) : rightOp list o d = true := by
  by_cases hk : o.kind = 0
  · have h1 := h.1 hk
    have h2 := hn hk
    obtain ⟨k, n, l, e⟩ := o
    simp only at hk h1 h2
    subst hk
    simp only [rightOp, if_true, Bool.and_eq_true, decide_eq_true_eq]
    exact ⟨⟨h1.1, h2, h1.2.1⟩, h1.2.2⟩
  · exact h.2 hk
theorem rightOs_all {list : Int} : ∀ {os : List Op} {d : Int}, rightOs list os d = true ↔ ∀ o ∈ os, rightOp list o d = true
  | [], d => by simp [rightOs]
  | o :: r, d => by
    simp only [rightOs, Bool.and_eq_true, List.mem_cons, forall_eq_or_imp]
    rw [rightOs_all (os := r)]
theorem sameE_none : sameE Edit.nil = true := rfl
structure OkW (list d : Int) (w : Wst) : Prop where
  out : ∀ o ∈ w.out, rOp list d o
  gone : treesG (dT d) list w.gone = true
  brought : treesG (dT d) list w.brought = true
theorem okW_flush {list d : Int} {w : Wst} (h : OkW list d w) : OkW list d (flushW w) := by
  refine ⟨?_, rfl, rfl⟩
  simp only [flushW, flushO]
  intro o ho
  rcases List.mem_append.1 ho with ho | ho
  · exact h.out o ho
  rcases List.mem_append.1 ho with ho | ho
  · split at ho
    · cases ho
    · rename_i hl
      simp only [List.mem_singleton] at ho
      subst ho
      refine ⟨fun hk => (by cases hk), fun _ => ?_⟩
      simp only [rightOp]
      rw [if_neg (by decide), if_neg (by decide), if_pos (by decide), h.gone, sameE_none]
      simp only [Bool.and_true, Bool.true_and, decide_eq_true_eq]
      omega
  · split at ho
    · cases ho
    · rename_i hl
      simp only [List.mem_singleton] at ho
      subst ho
      refine ⟨fun hk => (by cases hk), fun _ => ?_⟩
      simp only [rightOp]
      rw [if_neg (by decide), if_neg (by decide), if_pos (by decide), h.brought, sameE_none]
      simp only [Bool.and_true, Bool.true_and, decide_eq_true_eq]
      omega
theorem okW_keep {list d : Int} {w : Wst} {n : Int} (h : OkW list d w) (hn : 1 ≤ n) : OkW list d (keepW w n) := by
  have hf := okW_flush h
  refine ⟨?_, rfl, rfl⟩
  simp only [keepW]
  intro o ho
  rcases keepO_cases (flushW w).out n with e | ⟨a, q, e1, e2, e3⟩
  · rw [e] at ho
    rcases List.mem_append.1 ho with ho | ho
    · exact hf.out o ho
    · simp only [List.mem_singleton] at ho
      subst ho
      exact ⟨fun _ => ⟨hn, rfl, sameE_none⟩, fun hk => absurd rfl hk⟩
  · rw [e3] at ho
    rcases List.mem_append.1 ho with ho | ho
    · exact hf.out o (by rw [e1]; exact List.mem_append.2 (Or.inl ho))
    · simp only [List.mem_singleton] at ho
      subst ho
      have hq := (hf.out q (by rw [e1]; simp)).1 e2
      exact ⟨fun _ => ⟨by simp only; omega, hq.2⟩, fun hk => absurd e2 hk⟩
theorem okW_op {list d : Int} {w : Wst} {o : Op} (h : OkW list d w) (hr : rightOp list o d = true) (hi : rightE o.e d = true → rightE (nrmE o.e) d = true) : OkW list d (nrmOp list o w) := by
  obtain ⟨k, n, l, e⟩ := o
  have hr0 := hr
  rw [rightOp] at hr
  rw [nrmOp_at]
  simp only at hi ⊢
  split at hr
  · rename_i hk
    rw [if_pos hk]
    simp only [Bool.and_eq_true, decide_eq_true_eq] at hr
    exact okW_keep h hr.1.1
  · rename_i hk
    rw [if_neg hk]
    split at hr
    · cases hr
    · rename_i hn
      split at hr
      · rename_i h3
        simp only [Bool.and_eq_true, decide_eq_true_eq] at hr
        by_cases k1 : k = 1
        · rw [if_pos k1]
          exact ⟨h.out, treesOk_app h.gone (treesOk_norms (dT_ne d) hr.1.1), h.brought⟩
        · rw [if_neg k1, if_pos (by omega)]
          exact ⟨h.out, h.gone, treesOk_app h.brought (treesOk_norms (dT_ne d) hr.1.1)⟩
      · rename_i h3
        rw [if_neg (by omega), if_neg (by omega), if_pos (by omega)]
        split
        · exact okW_keep h (by decide)
        · have hf := okW_flush h
          refine ⟨?_, rfl, rfl⟩
          intro o ho
          rcases List.mem_append.1 ho with ho | ho
          · exact hf.out o ho
          · simp only [List.mem_singleton] at ho
            subst ho
            refine ⟨fun hk => (by cases hk), fun _ => ?_⟩
            simp only [Bool.and_eq_true, decide_eq_true_eq] at hr
            simp only [rightOp]
            rw [if_neg (by decide), if_neg (by decide), if_neg (by decide), nrmE_kind, hi hr.1.2]
            simp only [Bool.and_true, Bool.and_eq_true, decide_eq_true_eq]
            refine ⟨⟨rfl, hr.1.1.2⟩, ?_⟩
            rcases hr.2 with h | h | h
            · exact Or.inl h
            · exact Or.inr (Or.inl h)
            · rw [(nrmE_old e h.1).1, (nrmE_old e h.1).2, kind_norm, kind_norm]
              exact Or.inr (Or.inr h)
def sumA : List Op → Int
  | [] => 0
  | o :: r => (if o.kind = 2 then 0 else opLen o) + sumA r
def sumB : List Op → Int
  | [] => 0
  | o :: r => (if o.kind = 1 then 0 else opLen o) + sumB r
theorem sumA_app : ∀ (a b : List Op), sumA (a ++ b) = sumA a + sumA b
  | [], b => by simp [sumA]
  | o :: r, b => by simp only [List.cons_append, sumA, sumA_app r b]; omega
theorem sumB_app : ∀ (a b : List Op), sumB (a ++ b) = sumB a + sumB b
  | [], b => by simp [sumB]
  | o :: r, b => by simp only [List.cons_append, sumB, sumB_app r b]; omega
theorem lenA_sum : ∀ (l : List Op) (n : Int), (∀ o ∈ l, 0 ≤ opLen o) → 0 ≤ n → n ≤ 1048576 → lenA l n = min (n + sumA l) 1048576 ∧ 0 ≤ sumA l
  | [], n, _, h1, h2 => by simp only [lenA, sumA]; omega
  | o :: r, n, h, h1, h2 => by
    have ho := h o (List.mem_cons_self ..)
    simp only [lenA, sumA]
    have hx : 0 ≤ (if o.kind = 2 then n else n + opLen o) ∧ (if o.kind = 2 then n else n + opLen o) = n + (if o.kind = 2 then 0 else opLen o) := by split <;> omega
    have hy : 0 ≤ (if o.kind = 2 then 0 else opLen o) := by split <;> omega
    rw [hx.2]
    rw [hx.2] at hx
    generalize (if o.kind = 2 then 0 else opLen o) = y at *
    obtain ⟨e1, e2⟩ := lenA_sum r (min (n + y) 1048576) (fun x hx => h x (List.mem_cons_of_mem _ hx)) (by omega) (by omega)
    rw [e1]
    omega
theorem lenB_sum : ∀ (l : List Op) (n : Int), (∀ o ∈ l, 0 ≤ opLen o) → 0 ≤ n → n ≤ 1048576 → lenB l n = min (n + sumB l) 1048576 ∧ 0 ≤ sumB l
  | [], n, _, h1, h2 => by simp only [lenB, sumB]; omega
  | o :: r, n, h, h1, h2 => by
    have ho := h o (List.mem_cons_self ..)
    simp only [lenB, sumB]
    have hx : 0 ≤ (if o.kind = 1 then n else n + opLen o) ∧ (if o.kind = 1 then n else n + opLen o) = n + (if o.kind = 1 then 0 else opLen o) := by split <;> omega
    have hy : 0 ≤ (if o.kind = 1 then 0 else opLen o) := by split <;> omega
    rw [hx.2]
    rw [hx.2] at hx
    generalize (if o.kind = 1 then 0 else opLen o) = y at *
    obtain ⟨e1, e2⟩ := lenB_sum r (min (n + y) 1048576) (fun x hx => h x (List.mem_cons_of_mem _ hx)) (by omega) (by omega)
    rw [e1]
    omega
theorem rOp_len {list d : Int} {o : Op} (h : rOp list d o) : 0 ≤ opLen o := by
  unfold opLen
  split
  · decide
  · by_cases hk : o.kind = 0
    · have := (h.1 hk).1; omega
    · have hr := h.2 hk
      obtain ⟨k, n, l, e⟩ := o
      simp only at hk ⊢
      rw [rightOp, if_neg hk] at hr
      split at hr
      · cases hr
      · omega
theorem sumA_mem : ∀ {l : List Op} {o : Op}, (∀ o ∈ l, 0 ≤ opLen o) → o ∈ l → o.kind ≠ 2 → opLen o ≤ sumA l
  | a :: r, o, h, ho, hk => by
    have hr := (lenA_sum r 0 (fun x hx => h x (List.mem_cons_of_mem _ hx)) (by decide) (by decide)).2
    have ha := h a (List.mem_cons_self ..)
    simp only [sumA]
    rcases List.mem_cons.1 ho with rfl | ho
    · rw [if_neg hk]; omega
    · have := sumA_mem (fun x hx => h x (List.mem_cons_of_mem _ hx)) ho hk
      split <;> omega
def sA (w : Wst) : Int := sumA w.out + w.gone.length
def sB (w : Wst) : Int := sumB w.out + w.brought.length
theorem sum_flush (w : Wst) : sumA (flushW w).out = sA w ∧ sumB (flushW w).out = sB w := by
  simp only [flushW, flushO, sA, sB, sumA_app, sumB_app]
  constructor
  · by_cases hg : w.gone.length = 0
    · rw [if_pos hg]
      by_cases hb : w.brought.length = 0
      · rw [if_pos hb]; simp [sumA]; omega
      · rw [if_neg hb]; simp [sumA]; omega
    · rw [if_neg hg]
      by_cases hb : w.brought.length = 0
      · rw [if_pos hb]; simp [sumA, opLen]
      · rw [if_neg hb]; simp [sumA, opLen]
  · by_cases hg : w.gone.length = 0
    · rw [if_pos hg]
      by_cases hb : w.brought.length = 0
      · rw [if_pos hb]; simp [sumB]; omega
      · rw [if_neg hb]; simp [sumB, opLen]
    · rw [if_neg hg]
      by_cases hb : w.brought.length = 0
      · rw [if_pos hb]; simp [sumB]; omega
      · rw [if_neg hb]; simp [sumB, opLen]
theorem sum_keep (w : Wst) (n : Int) : sA (keepW w n) = sA w + n ∧ sB (keepW w n) = sB w + n := by
  have hf := sum_flush w
  simp only [keepW]
  have e1 : ∀ x, sA ⟨x, [], []⟩ = sumA x := fun x => by simp [sA]
  have e2 : ∀ x, sB ⟨x, [], []⟩ = sumB x := fun x => by simp [sB]
  rw [e1, e2, ← hf.1, ← hf.2]
  rcases keepO_cases (flushW w).out n with e | ⟨a, q, e1, e2, e3⟩
  · rw [e, sumA_app, sumB_app]
    simp [sumA, sumB, opLen]
  · rw [e3, e1, sumA_app, sumB_app, sumA_app, sumB_app]
    simp only [sumA, sumB, opLen, e2]
    simp
    omega
theorem sum_op {list d : Int} {w : Wst} {o : Op} (hr : rightOp list o d = true) : sA (nrmOp list o w) = sA w + (if o.kind = 2 then 0 else opLen o) ∧ sB (nrmOp list o w) = sB w + (if o.kind = 1 then 0 else opLen o) := by
  have hl : ∀ l, ((normsT l).length : Int) = l.length := fun l => by simp [normsT]
  obtain ⟨k, n, l, e⟩ := o
  rw [rightOp] at hr
  rw [nrmOp_at]
  simp only [opLen]
  split at hr
  · rename_i hk
    subst hk
    rw [if_pos rfl]
    simp only [Bool.and_eq_true, decide_eq_true_eq] at hr
    have := sum_keep w n
    simp
    omega
  · rename_i hk
    rw [if_neg hk]
    split at hr
    · cases hr
    · rename_i hn
      split at hr
      · rename_i h3
        by_cases k1 : k = 1
        · subst k1
          rw [if_pos rfl]
          simp only [sA, sB, List.length_append]
          simp [hl]
          omega
        · have k2 : k = 2 := by omega
          subst k2
          rw [if_neg k1, if_pos rfl]
          simp only [sA, sB, List.length_append]
          simp [hl]
          omega
      · rename_i h3
        have k3 : k = 3 := by omega
        subst k3
        rw [if_neg (by omega), if_neg (by omega), if_pos rfl]
        split
        · have := sum_keep w 1
          simp
          omega
        · have := sum_flush w
          simp only [sA, sB, sumA_app, sumB_app, sumA, sumB, opLen] at this ⊢
          simp
          omega
mutual
theorem rightE_nrm : ∀ (e : Edit) (d : Int), rightE e d = true → rightE (nrmE e) d = true
  | .mk k o n w ks l os, d, h => by
    have h1 := rightKs_nrm ks
    have h2 := okW_nrm l os
    have h4 := sum_nrm l os
    rw [rightE] at h
    split at h
    · cases h
    · rename_i a
      split at h
      · cases h
      · rename_i b
        have nn : noneT Tree.nil = true := rfl
        by_cases k1 : k = 1
        · subst k1
          rw [if_pos rfl] at h
          have hl : l = 0 := by
            apply Classical.byContradiction
            intro hl
            exact b (.inr (.inr ⟨by decide, .inl hl⟩))
          simp only [Bool.and_eq_true, decide_eq_true_eq] at h
          rw [nrmE, if_pos rfl, rightE, if_neg a, if_neg (by simp [hl]), if_pos rfl]
          simp only [Bool.and_eq_true, decide_eq_true_eq]
          rw [kind_norm, kind_norm]
          exact ⟨⟨rightT_norm _ _ h.1.1, rightT_norm _ _ h.1.2⟩, h.2⟩
        · rw [if_neg k1] at h
          simp only [Bool.and_eq_true, decide_eq_true_eq] at h
          obtain ⟨⟨⟨⟨x1, x2⟩, x3⟩, x4⟩, x5⟩ := h
          rw [nrmE, if_neg k1]
          by_cases k2 : k = 2
          · have hl : l = 0 := by
              apply Classical.byContradiction
              intro hl
              exact b (.inr (.inr ⟨by omega, .inl hl⟩))
            rw [if_pos k2, rightE, if_neg a, if_neg (by simp [nn, hl, k2]), if_neg k1]
            simp only [Bool.and_eq_true, decide_eq_true_eq]
            exact ⟨⟨⟨⟨x1, h1 _ _ x2⟩, x3⟩, rfl⟩, by decide⟩
          · rw [if_neg k2]
            by_cases k3 : k = 3
            · rw [if_pos k3, rightE, if_neg a, if_neg (by simp [nn, k3]), if_neg k1]
              simp only [Bool.and_eq_true, decide_eq_true_eq]
              have hall := rightOs_all.1 x4
              obtain ⟨y1, y2⟩ := lenA_sum os 0 (fun o ho => rOp_len (rOp_of (hall o ho))) (by decide) (by decide)
              obtain ⟨z1, z2⟩ := lenB_sum os 0 (fun o ho => rOp_len (rOp_of (hall o ho))) (by decide) (by decide)
              have hw := h2 (d - 1) W0 x4 ⟨fun o ho => (by cases ho), rfl, rfl⟩
              have hs := h4 (d - 1) W0 x4
              have hff := okW_flush hw
              have hsf := sum_flush (nrmOs l os W0)
              have e0 : sA W0 = 0 ∧ sB W0 = 0 := ⟨rfl, rfl⟩
              have hA := lenA_sum (flushW (nrmOs l os W0)).out 0 (fun o ho => rOp_len (hff.out o ho)) (by decide) (by decide)
              have hB := lenB_sum (flushW (nrmOs l os W0)).out 0 (fun o ho => rOp_len (hff.out o ho)) (by decide) (by decide)
              refine ⟨⟨⟨⟨rfl, rfl⟩, x3⟩, rightOs_all.2 (fun o ho => rOp_to (hff.out o ho) (fun hk => ?_))⟩, ?_, ?_⟩
              · have hm := sumA_mem (fun o ho => rOp_len (hff.out o ho)) ho (by omega)
                unfold opLen at hm
                rw [if_neg (by omega)] at hm
                omega
              · show lenA (flushW (nrmOs l os W0)).out 0 < 1048576
                omega
              · show lenB (flushW (nrmOs l os W0)).out 0 < 1048576
                omega
            · have hl : l = 0 := by
                apply Classical.byContradiction
                intro hl
                exact b (.inr (.inr ⟨k3, .inl hl⟩))
              rw [if_neg k3, rightE, if_neg a, if_neg (by simp [nn, hl]), if_neg k1]
              simp only [Bool.and_eq_true, decide_eq_true_eq]
              exact ⟨⟨⟨⟨rfl, rfl⟩, x3⟩, rfl⟩, by decide⟩
theorem rightKs_nrm : ∀ (ks : List (KidOf Edit)) (last d : Int), rightKs last ks d = true → rightKs last (nrmKs ks) d = true
  | [], _, _, _ => rfl
  | k :: r, last, d, h => by
    simp only [rightKs, Bool.and_eq_true] at h
    have h1 := rightKid_nrm k last d h.1
    have h2 := rightKs_nrm r k.at_ d h.2
    simp only [nrmKs, rightKs, Bool.and_eq_true]
    exact ⟨h1, by rw [nrmKid_at]; exact h2⟩
theorem rightKid_nrm : ∀ (k : KidOf Edit) (last d : Int), rightKid last k d = true → rightKid last (nrmKid k) d = true
  | ⟨a, e⟩, last, d, h => by
    simp only [rightKid, Bool.and_eq_true] at h
    have h1 := rightE_nrm e d h.2
    simp only [nrmKid, rightKid, Bool.and_eq_true]
    rw [nrmE_kind]
    exact ⟨h.1, h1⟩
theorem okW_nrm (list : Int) : ∀ (os : List (OpOf Edit)) (d : Int) (w : Wst), rightOs list os d = true → OkW list d w → OkW list d (nrmOs list os w)
  | [], _, _, _, hw => hw
  | o :: r, d, w, h, hw => by
    simp only [rightOs, Bool.and_eq_true] at h
    have h1 := okW_nrmOp list o d w h.1 hw
    exact okW_nrm list r d _ h.2 h1
theorem okW_nrmOp (list : Int) : ∀ (o : OpOf Edit) (d : Int) (w : Wst), rightOp list o d = true → OkW list d w → OkW list d (nrmOp list o w)
  | ⟨k, n, l, e⟩, d, w, h, hw => okW_op (o := ⟨k, n, l, e⟩) hw h (fun he => rightE_nrm e d he)
theorem sum_nrm (list : Int) : ∀ (os : List (OpOf Edit)) (d : Int) (w : Wst), rightOs list os d = true → sA (nrmOs list os w) = sA w + sumA os ∧ sB (nrmOs list os w) = sB w + sumB os
  | [], _, _, _ => by simp [nrmOs, sumA, sumB]
  | o :: r, d, w, h => by
    simp only [rightOs, Bool.and_eq_true] at h
    have h1 := sum_op (w := w) h.1
    have h2 := sum_nrm list r d (nrmOp list o w) h.2
    simp only [nrmOs, sumA, sumB]
    omega
end
end Go.AM.Ytpjenobkibfpcaa

namespace Go.AM.Ytpjenobkibfpcaa
open Go.AM Go.Proofs
theorem rngK_app : ∀ {a b : List Tree}, rngK (a ++ b) ↔ rngK a ∧ rngK b
  | [], b => by simp [rngK]
  | t :: r, b => by simp only [List.cons_append, rngK]; rw [rngK_app (a := r), and_assoc]
mutual
theorem rng_norm : ∀ (t : Tree), rng t → rng (normT t)
  | .mk k w ks, h => by
    simp only [rng] at h
    obtain ⟨h1, h2, h3⟩ := h
    have h4 := rngK_norm ks h3
    simp only [normT]
    split
    · simp only [Tree.nil, rng, rngK]
      exact ⟨by decide, by simp, trivial⟩
    · split
      · obtain ⟨r1, e1⟩ := trim_pre w
        obtain ⟨r2, e2⟩ := trimK_pre (normK ks)
        simp only [rng]
        refine ⟨by decide, fun x hx => h2 x (by rw [e1]; exact List.mem_append.2 (Or.inl hx)), ?_⟩
        rw [e2] at h4
        exact (rngK_app.1 h4).1
      · simp only [rng]
        exact ⟨h1, h2, h4⟩
theorem rngK_norm : ∀ (l : List Tree), rngK l → rngK (normK l)
  | [], _ => trivial
  | t :: r, h => by
    simp only [rngK] at h
    have h1 := rng_norm t h.1
    have h2 := rngK_norm r h.2
    simp only [normK, rngK]
    exact ⟨h1, h2⟩
end
theorem rngK_norms : ∀ {l : List Tree}, rngK l → rngK (normsT l)
  | [], _ => trivial
  | t :: r, h => by
    simp only [rngK] at h
    have h2 := rngK_norms h.2
    simp only [normsT] at h2
    simp only [normsT, List.map_cons, rngK]
    exact ⟨rng_norm t h.1, h2⟩
theorem rng_nilT : rng Tree.nil := by
  simp only [Tree.nil, rng, rngK]
  exact ⟨by decide, by simp, trivial⟩
mutual
theorem rngE_turn : ∀ (e : Edit), rngE e → rngE (turnE e)
  | .mk k o n w ks l os, h => by
    simp only [rngE] at h
    obtain ⟨h1, h2, h3, h4, h5, h6, h7⟩ := h
    have i6 := rngKs_turn ks h6
    have i7 := rngOs_turn os h7
    simp only [turnE, rngE]
    refine ⟨h1, h3, h2, fun x hx => ?_, h5, i6, i7⟩
    obtain ⟨y, hy, rfl⟩ := List.mem_map.1 hx
    have := h4 y hy
    simp only [rngW, turnW] at this ⊢
    exact ⟨this.1, this.2.1, this.2.2.2, this.2.2.1⟩
theorem rngKs_turn : ∀ (ks : List (KidOf Edit)), rngKs ks → rngKs (turnKs ks)
  | [], _ => trivial
  | k :: r, h => by
    simp only [rngKs] at h
    have h1 := rngKid_turn k h.1
    have h2 := rngKs_turn r h.2
    simp only [turnKs, rngKs]
    exact ⟨h1, h2⟩
theorem rngKid_turn : ∀ (k : KidOf Edit), rngKid k → rngKid (turnKid k)
  | ⟨a, e⟩, h => by
    simp only [rngKid] at h
    have h2 := rngE_turn e h.2
    simp only [turnKid, rngKid]
    exact ⟨h.1, h2⟩
theorem rngOs_turn : ∀ (os : List (OpOf Edit)), rngOs os → rngOs (turnOs os)
  | [], _ => trivial
  | o :: r, h => by
    simp only [rngOs] at h
    have h1 := rngOp_turn o h.1
    have h2 := rngOs_turn r h.2
    simp only [turnOs, rngOs]
    exact ⟨h1, h2⟩
theorem rngOp_turn : ∀ (o : OpOf Edit), rngOp o → rngOp (turnOp o)
  | ⟨k, n, l, e⟩, h => by
    simp only [rngOp] at h
    have h4 := rngE_turn e h.2.2.2
    simp only [turnOp]
    split
    · simp only [rngOp]; exact ⟨by unfold isI; omega, h.2⟩
    · split
      · simp only [rngOp]; exact ⟨by unfold isI; omega, h.2⟩
      · split
        · simp only [rngOp]; exact ⟨h.1, h.2.1, h.2.2.1, h4⟩
        · simp only [rngOp]; exact h
end
structure RngW (w : Wst) : Prop where
  out : ∀ o ∈ w.out, rngK o.l ∧ rngE o.e
  gone : rngK w.gone
  brought : rngK w.brought
theorem rngE_none : rngE Edit.nil := by
  simp only [Edit.nil, rngE, rngKs, rngOs]
  exact ⟨by unfold isI; omega, rng_nilT, rng_nilT, by simp, by unfold isI; omega, trivial, trivial⟩
theorem rngW_flush {w : Wst} (h : RngW w) : RngW (flushW w) := by
  refine ⟨?_, trivial, trivial⟩
  simp only [flushW, flushO]
  intro o ho
  rcases List.mem_append.1 ho with ho | ho
  · exact h.out o ho
  rcases List.mem_append.1 ho with ho | ho
  · split at ho
    · cases ho
    · simp only [List.mem_singleton] at ho
      subst ho
      exact ⟨h.gone, rngE_none⟩
  · split at ho
    · cases ho
    · simp only [List.mem_singleton] at ho
      subst ho
      exact ⟨h.brought, rngE_none⟩
theorem rngW_keep {w : Wst} {n : Int} (h : RngW w) : RngW (keepW w n) := by
  have hf := rngW_flush h
  refine ⟨?_, trivial, trivial⟩
  simp only [keepW]
  intro o ho
  rcases keepO_cases (flushW w).out n with e | ⟨a, q, e1, e2, e3⟩
  · rw [e] at ho
    rcases List.mem_append.1 ho with ho | ho
    · exact hf.out o ho
    · simp only [List.mem_singleton] at ho
      subst ho
      exact ⟨trivial, rngE_none⟩
  · rw [e3] at ho
    rcases List.mem_append.1 ho with ho | ho
    · exact hf.out o (by rw [e1]; exact List.mem_append.2 (Or.inl ho))
    · simp only [List.mem_singleton] at ho
      subst ho
      exact hf.out q (by rw [e1]; simp)
theorem rngW_op {list : Int} {w : Wst} {o : Op} (h : RngW w) (hl : rngK o.l) (he : rngE (nrmE o.e)) : RngW (nrmOp list o w) := by
  rw [nrmOp_at]
  split
  · exact rngW_keep h
  · split
    · exact ⟨h.out, rngK_app.2 ⟨h.gone, rngK_norms hl⟩, h.brought⟩
    · split
      · exact ⟨h.out, h.gone, rngK_app.2 ⟨h.brought, rngK_norms hl⟩⟩
      · split
        · split
          · exact rngW_keep h
          · refine ⟨?_, trivial, trivial⟩
            intro o ho
            rcases List.mem_append.1 ho with ho | ho
            · exact (rngW_flush h).out o ho
            · simp only [List.mem_singleton] at ho
              subst ho
              exact ⟨trivial, he⟩
        · exact h
theorem rngOs_every : ∀ {os : List Op}, (∀ o ∈ os, rngOp o) → rngOs os
  | [], _ => trivial
  | o :: r, h => by
    simp only [rngOs]
    exact ⟨h o (List.mem_cons_self ..), rngOs_every (fun x hx => h x (List.mem_cons_of_mem _ hx))⟩
theorem rightOp_rng {list d : Int} {o : Op} (h : rightOp list o d = true) (hl : rngK o.l) (he : rngE o.e) : rngOp o := by
  have hn := rightOp_n h
  obtain ⟨k, n, l, e⟩ := o
  simp only at hn hl he
  simp only [rngOp]
  refine ⟨?_, by unfold isI; omega, hl, he⟩
  rw [rightOp] at h
  unfold isI
  split at h
  · omega
  · split at h
    · cases h
    · omega
mutual
theorem rngE_nrm' : ∀ (e : Edit) (d : Int), rightE e d = true → rngE e → rngE (nrmE e)
  | .mk k o n w ks l os, d, hr, h => by
    have hin := rightE_in hr
    have hout := rightE_in (rightE_nrm _ _ hr)
    simp only [Edit.kids_mk, Edit.ops_mk, Edit.list_mk] at hin
    simp only [rngE] at h
    obtain ⟨h1, h2, h3, h4, h5, h6, h7⟩ := h
    have i6 := rngKs_nrm ks (d - 1) (fun k hk => (hin.1 k hk).1) h6
    have i7 := rngOs_nrm l os (d - 1) hin.2 h7 W0 ⟨fun o ho => (by cases ho), trivial, trivial⟩
    rw [nrmE] at hout ⊢
    by_cases k1 : k = 1
    · rw [if_pos k1]
      simp only [rngE]
      exact ⟨h1, rng_norm o h2, rng_norm n h3, by simp, h5, trivial, trivial⟩
    · rw [if_neg k1] at hout ⊢
      by_cases k2 : k = 2
      · rw [if_pos k2]
        simp only [rngE]
        exact ⟨h1, rng_nilT, rng_nilT, h4, h5, i6, trivial⟩
      · rw [if_neg k2] at hout ⊢
        by_cases k3 : k = 3
        · rw [if_pos k3] at hout ⊢
          simp only [rngE]
          refine ⟨h1, rng_nilT, rng_nilT, by simp, h5, trivial, rngOs_every (fun q hq => ?_)⟩
          have hx := hout.2 q hq
          have hy := (rngW_flush i7).out q hq
          exact rightOp_rng hx hy.1 hy.2
        · rw [if_neg k3]
          simp only [rngE]
          exact ⟨h1, rng_nilT, rng_nilT, by simp, h5, trivial, trivial⟩
theorem rngKs_nrm : ∀ (ks : List (KidOf Edit)) (d : Int), (∀ k ∈ ks, rightE k.e d = true) → rngKs ks → rngKs (nrmKs ks)
  | [], _, _, _ => trivial
  | k :: r, d, hr, h => by
    simp only [rngKs] at h
    have h1 := rngKid_nrm k d (hr k (List.mem_cons_self ..)) h.1
    have h2 := rngKs_nrm r d (fun x hx => hr x (List.mem_cons_of_mem _ hx)) h.2
    simp only [nrmKs, rngKs]
    exact ⟨h1, h2⟩
theorem rngKid_nrm : ∀ (k : KidOf Edit) (d : Int), rightE k.e d = true → rngKid k → rngKid (nrmKid k)
  | ⟨a, e⟩, d, hr, h => by
    simp only [rngKid] at h
    have h2 := rngE_nrm' e d hr h.2
    simp only [nrmKid, rngKid]
    exact ⟨h.1, h2⟩
theorem rngOs_nrm (list : Int) : ∀ (os : List (OpOf Edit)) (d : Int), (∀ o ∈ os, rightOp list o d = true) → rngOs os → ∀ (w : Wst), RngW w → RngW (nrmOs list os w)
  | [], _, _, _, w, hw => hw
  | o :: r, d, hr, h, w, hw => by
    simp only [rngOs] at h
    have h1 := rngOp_nrm list o d (hr o (List.mem_cons_self ..)) h.1 w hw
    exact rngOs_nrm list r d (fun x hx => hr x (List.mem_cons_of_mem _ hx)) h.2 _ h1
theorem rngOp_nrm (list : Int) : ∀ (o : OpOf Edit) (d : Int), rightOp list o d = true → rngOp o → ∀ (w : Wst), RngW w → RngW (nrmOp list o w)
  | ⟨k, n, l, e⟩, d, hr, h, w, hw => by
    simp only [rngOp] at h
    by_cases k3 : k = 3
    · have he : rightE e d = true := by
        rw [rightOp, if_neg (by omega), ] at hr
        split at hr
        · cases hr
        · rw [if_neg (by omega)] at hr
          simp only [Bool.and_eq_true] at hr
          exact hr.1.2
      exact rngW_op (o := ⟨k, n, l, e⟩) hw h.2.2.1 (rngE_nrm' e d he h.2.2.2)
    · have hs : rngE (nrmE Edit.nil) := by
        show rngE (.mk 0 Tree.nil Tree.nil [] [] 0 [])
        exact rngE_none
      have e2 : nrmOp list ⟨k, n, l, e⟩ w = nrmOp list ⟨k, n, l, Edit.nil⟩ w := by
        simp only [nrmOp]
        rw [if_neg k3, if_neg k3]
      rw [e2]
      exact rngW_op (o := ⟨k, n, l, Edit.nil⟩) hw h.2.2.1 hs
end
end Go.AM.Ytpjenobkibfpcaa

namespace Go.AM.Ytpjenobkibfpcaa
open Go.AM Go.Proofs
theorem massTK (t : Tree) : t.words.length + massK t.kids + 1 = mass t := by obtain ⟨k, w, ks⟩ := t; simp only [mass, Tree.words_mk, Tree.kids_mk]; omega
theorem massK_set : ∀ (l : List Tree) (i : Nat) (x : Tree), i < l.length → massK (l.set i x) + mass (l.getD i Tree.nil) = massK l + mass x
  | [], i, x, h => by simp at h
  | a :: r, 0, x, _ => by simp only [List.set_cons_zero, massK, List.getD_cons_zero]; omega
  | a :: r, i + 1, x, h => by
    have := massK_set r i x (by simpa using h)
    simp only [List.set_cons_succ, massK, List.getD_cons_succ]; omega
theorem massK_reps (n : Nat) : massK (List.replicate n Tree.nil) = n := by
  induction n with
  | zero => rfl
  | succ n ih => rw [List.replicate_succ, massK, ih]; simp [Tree.nil, mass, massK]; omega
theorem massK_cat : ∀ (a b : List Tree), massK (a ++ b) = massK a + massK b
  | [], b => by simp [massK]
  | t :: r, b => by simp only [List.cons_append, massK, massK_cat r b]; omega
theorem massK_pad (l : List Tree) (i : Nat) (x : Tree) : massK (setPad Tree.nil l i x) + mass (l.getD i Tree.nil) ≤ massK l + mass x + (i + 1) := by
  have h := massK_set (l ++ List.replicate (i + 1 - l.length) Tree.nil) i x (by simp; omega)
  have e : (l ++ List.replicate (i + 1 - l.length) Tree.nil).getD i Tree.nil = l.getD i Tree.nil := by
    by_cases hi : i < l.length
    · simp only [List.getD_eq_getElem?_getD]; rw [List.getElem?_append_left hi]
    · simp only [List.getD_eq_getElem?_getD]
      rw [List.getElem?_append_right (by omega), List.getElem?_eq_none (l := l) (by omega), List.getElem?_replicate]
      split <;> rfl
  rw [e, massK_cat, massK_reps] at h
  simp only [setPad]
  omega
theorem wsD_len {tw : List Int} : ∀ {ws : List WEdit} {last : Int} {out a : List Int}, wordsOk last ws = true → wsD tw ws out = some a → a.length ≤ max out.length 65535
  | [], _, out, a, _, h => by rw [wsD] at h; cases h; omega
  | w :: r, last, out, a, hw, h => by
    have h1 := wordsOk_all hw w List.mem_cons_self
    simp only [wordsOk, Bool.and_eq_true] at hw
    rw [wsD] at h
    split at h
    · have := wsD_len hw.2 h
      rw [setPad_length] at this
      omega
    · cases h
theorem rightKs_cons {last d : Int} {k : Kid} {r : List Kid} (h : rightKs last (k :: r) d = true) : (last < k.at_ ∧ k.at_ ≤ 65534) ∧ rightE k.e d = true ∧ rightKs k.at_ r d = true := by
  have := rightKs_all h k List.mem_cons_self
  simp only [rightKs, Bool.and_eq_true] at h
  exact ⟨⟨this.1.1, this.1.2.1⟩, this.2, h.2⟩
theorem wsD_len2 {tw : List Int} {ws : List WEdit} {last : Int} {out a : List Int} (hw : wordsOk last ws = true) (h : wsD tw ws out = some a) : a.length ≤ out.length + 65600 * ws.length := by
  cases ws with
  | nil => rw [wsD] at h; cases h; omega
  | cons w r =>
    have := wsD_len hw h
    simp only [List.length_cons]
    omega
theorem nrD_mass (r : Bool) (v : Tree) : mass (nrD r v) ≤ mass v := by
  unfold nrD
  split
  · exact normT_mass v
  · exact Nat.le_refl _
mutual
theorem mass_raw (r : Bool) : ∀ (e : Edit) (d : Int) (t v : Tree), rightE e d = true → rawE r e t = some v → mass v + 18 ≤ mass t + ctE e
  | .mk k o n w ks l os, d, t, v, hr, hv => by
    have ri := rightE_all hr
    have h1 := mass_doKs r ks t.kids
    have h2 := mass_doOs r l os
    have ht := massTK t
    have po := mass_pos o
    have pn := mass_pos n
    have pt := mass_pos t
    unfold rawE at hv
    simp only [ctE]
    split at hv
    · cases hv; omega
    · split at hv
      · split at hv
        · cases hv
          show mass n + 18 ≤ _
          omega
        · cases hv
      · split at hv
        · split at hv
          · obtain ⟨a, ha, hb⟩ := Option.bind_eq_some_iff.1 hv
            obtain ⟨b, hb, e⟩ := Option.map_eq_some_iff.1 hb
            have l1 := wsD_len2 ri.words ha
            simp only [Edit.words_mk] at l1
            have l2 := h1 t.kids b _ (-1) (by omega) ri.kids (fun j _ => rfl) hb
            rw [← e]
            simp only [mass]
            omega
          · cases hv
        · split at hv
          · split at hv
            · obtain ⟨b, hb, e⟩ := Option.map_eq_some_iff.1 hv
              unfold endD at hb
              obtain ⟨x, hx, hy⟩ := Option.bind_eq_some_iff.1 hb
              have l2 := h2 _ t.kids [] x (fun o ho => Go.AM.rightOs_mem ri.ops o ho) hx
              split at hy
              · cases hy
                rw [← e]
                simp only [mass, List.length_nil]
                simp only [massK] at l2
                omega
              · cases hy
            · cases hv
          · cases hv
theorem mass_doKs (r : Bool) : ∀ (ks : List (KidOf Edit)) (tk out b : List Tree) (d last : Int), -1 ≤ last → rightKs last ks d = true → (∀ j : Nat, last < (j : Int) → out.getD j Tree.nil = tk.getD j Tree.nil) → doKs r tk ks out = some b → massK b ≤ massK out + ctKs ks
  | [], tk, out, b, d, last, _, _, _, h => by rw [doKs] at h; cases h; simp
  | k :: s, tk, out, b, d, last, hl, hr, hj, h => by
    obtain ⟨h1, h2, h3⟩ := rightKs_cons hr
    rw [doKs] at h
    obtain ⟨u, hu, hb⟩ := Option.bind_eq_some_iff.1 h
    have m1 := mass_doKid r k tk u d h2 hu
    have m2 := massK_pad out k.at_.toNat u
    rw [hj k.at_.toNat (by omega)] at m2
    have m3 := mass_doKs r s tk _ b d k.at_ (by omega) h3 (fun j hj' => by
      rw [setPad_getD, if_neg (by omega)]
      exact hj j (by omega)) hb
    have m4 : k.at_.toNat + 1 ≤ 65600 := by omega
    have e1 : ctKs (k :: s) = 65600 + ctE k.e + ctKs s := by obtain ⟨a, e⟩ := k; rfl
    rw [e1]
    omega
theorem mass_doKid (r : Bool) : ∀ (k : KidOf Edit) (tk : List Tree) (u : Tree) (d : Int), rightE k.e d = true → doKid r tk k = some u → mass u + 18 ≤ mass (tk.getD k.at_.toNat Tree.nil) + ctE k.e
  | ⟨a, e⟩, tk, u, d, hr, h => by
    rw [doKid, doE_raw] at h
    obtain ⟨v, hv, hu⟩ := Option.map_eq_some_iff.1 h
    have := mass_raw r e d (tk.getD a.toNat Tree.nil) v hr hv
    have hvu := nrD_mass r v
    rw [hu] at hvu
    dsimp only
    omega
theorem mass_doOs (r : Bool) (l : Int) : ∀ (os : List (OpOf Edit)) (d : Int) (rest out : List Tree) (x : List Tree × List Tree), (∀ o ∈ os, rightOp l o d = true) → doOs r os rest out = some x → massK x.1 + massK x.2 ≤ massK out + massK rest + ctOs os
  | [], d, rest, out, x, _, h => by rw [doOs] at h; cases h; simp
  | o :: s, d, rest, out, x, hr, h => by
    rw [doOs] at h
    obtain ⟨y, hy, hx⟩ := Option.bind_eq_some_iff.1 h
    have m1 := mass_doOp r l o d rest out y (hr o List.mem_cons_self) hy
    have m2 := mass_doOs r l s d _ _ x (fun q hq => hr q (List.mem_cons_of_mem _ hq)) hx
    rw [ctOs]
    omega
theorem mass_doOp (r : Bool) (l : Int) : ∀ (o : OpOf Edit) (d : Int) (rest out : List Tree) (x : List Tree × List Tree), rightOp l o d = true → doOp r o rest out = some x → massK x.1 + massK x.2 ≤ massK out + massK rest + ctOp o
  | ⟨k, n, L, e⟩, d, rest, out, x, hr, h => by
    have he := mass_raw r e d (rest.getD 0 Tree.nil)
    rw [doOp] at h
    simp only [ctOp]
    split at h
    · split at h
      · cases h
        have := massK_cat (rest.take n.toNat) (rest.drop n.toNat)
        rw [List.take_append_drop] at this
        dsimp only
        rw [massK_cat]; omega
      · cases h
    · split at h
      · split at h
        · cases h
          have := massK_drop L.length rest
          dsimp only; omega
        · cases h
      · split at h
        · cases h
          dsimp only
          rw [massK_cat]; omega
        · split at h
          · cases h
          · obtain ⟨u, hu, e2⟩ := Option.map_eq_some_iff.1 h
            cases e2
            have hk : k = 3 := by
              have ra := rightOp_all hr
              generalize ho : OpOf.mk k n L e = o at ra
              cases ra <;> (injection ho with h1; try omega)
            rw [doE_raw] at hu
            obtain ⟨v, hv, hu⟩ := Option.map_eq_some_iff.1 hu
            have := he v (right_desc hr hk) hv
            have hvu := nrD_mass r v
            rw [hu] at hvu
            cases rest with
            | nil => contradiction
            | cons a q =>
              rw [massK_cat]
              simp only [massK, List.drop_succ_cons, List.drop_zero, List.getD_cons_zero] at this ⊢
              omega
end
theorem mass_do (r : Bool) (e : Edit) (d : Int) (t u : Tree) (hr : rightE e d = true) (h : doE r e t = some u) : mass u + 18 ≤ mass t + ctE e := by
  rw [doE_raw] at h
  obtain ⟨v, hv, hu⟩ := Option.map_eq_some_iff.1 h
  have := mass_raw r e d t v hr hv
  have hvu := nrD_mass r v
  rw [hu] at hvu
  omega
theorem of8_in {f : Nat → Int} (h : ∀ i, 0 ≤ f i ∧ f i < 256) : isW (of8 f) := by
  have h0 := h 0; have h1 := h 1; have h2 := h 2; have h3 := h 3; have h4 := h 4; have h5 := h 5; have h6 := h 6; have h7 := h 7
  unfold isW of8
  omega
theorem mix_in (a b m : Int) : isW (mix a b m) := of8_in (mixAt_range a b m)
theorem rngK_of {l : List Tree} (h : ∀ t ∈ l, rng t) : rngK l := by
  induction l with
  | nil => exact trivial
  | cons a r ih => exact ⟨h a List.mem_cons_self, ih fun t ht => h t (List.mem_cons_of_mem _ ht)⟩
theorem rng_nilT' : rng Tree.nil := ⟨by decide, by simp, trivial⟩
theorem setPad_mem {α : Type} {z x y : α} {l : List α} {i : Nat} (h : y ∈ setPad z l i x) : y ∈ l ∨ y = z ∨ y = x := by
  rcases List.mem_or_eq_of_mem_set h with h | h
  · rcases List.mem_append.1 h with h | h
    · exact .inl h
    · exact .inr (.inl (List.eq_of_mem_replicate h))
  · exact .inr (.inr h)
theorem rng_get {ks : List Tree} (h : rngK ks) (i : Nat) : rng (ks.getD i Tree.nil) := by
  by_cases hi : i < ks.length
  · exact rngK_mem h (mem_getD hi _)
  · rw [List.getD_eq_getElem?_getD, List.getElem?_eq_none (by omega)]
    exact rng_nilT'
theorem wsD_in {tw : List Int} : ∀ {ws : List WEdit} {out a : List Int}, (∀ x ∈ out, isW x) → wsD tw ws out = some a → ∀ x ∈ a, isW x
  | [], out, a, h, hw => by rw [wsD] at hw; cases hw; exact h
  | w :: r, out, a, h, hw => by
    rw [wsD] at hw
    split at hw
    · refine wsD_in (fun x hx => ?_) hw
      rcases setPad_mem hx with hx | rfl | rfl
      · exact h x hx
      · exact ⟨by omega, by omega⟩
      · exact mix_in _ _ _
    · cases hw
mutual
theorem rng_do (r : Bool) : ∀ (e : Edit) (t u : Tree), rngE e → rng t → doE r e t = some u → rng u
  | .mk k o n w ks l os, t, u, hr, ht, h => by
    have h1 := rng_doKs r ks
    have h2 := rng_doOs r os
    simp only [rngE] at hr
    obtain ⟨r1, r2, r3, r4, r5, r6, r7⟩ := hr
    have hta : isI t.kind ∧ (∀ x ∈ t.words, isW x) ∧ rngK t.kids := by obtain ⟨k, w, ks⟩ := t; exact ht
    rw [doE_at] at h
    obtain ⟨v, hv, hu⟩ := Option.map_eq_some_iff.1 h
    suffices rng v by
      rw [← hu]; unfold nrD
      split
      · exact rng_norm v this
      · exact this
    clear h hu
    split at hv
    · cases hv; exact ht
    · split at hv
      · split at hv
        · cases hv; exact r3
        · cases hv
      · split at hv
        · split at hv
          · obtain ⟨a, ha, hb⟩ := Option.bind_eq_some_iff.1 hv
            obtain ⟨b, hb, e⟩ := Option.map_eq_some_iff.1 hb
            rw [← e]
            exact ⟨by decide, wsD_in hta.2.1 ha, h1 _ _ _ r6 hta.2.2 hta.2.2 hb⟩
          · cases hv
        · split at hv
          · split at hv
            · obtain ⟨b, hb, e⟩ := Option.map_eq_some_iff.1 hv
              unfold endD at hb
              obtain ⟨x, hx, hy⟩ := Option.bind_eq_some_iff.1 hb
              split at hy
              · cases hy
                rw [← e]
                exact ⟨r5, by simp, (h2 _ [] _ r7 hta.2.2 trivial hx).1⟩
              · cases hy
            · cases hv
          · cases hv
theorem rng_doKs (r : Bool) : ∀ (ks : List (KidOf Edit)) (tk out b : List Tree), rngKs ks → rngK tk → rngK out → doKs r tk ks out = some b → rngK b
  | [], tk, out, b, _, _, ho, h => by rw [doKs] at h; cases h; exact ho
  | k :: s, tk, out, b, hk, ht, ho, h => by
    rw [doKs] at h
    obtain ⟨u, hu, hb⟩ := Option.bind_eq_some_iff.1 h
    have m1 := rng_doKid r k tk u hk.1 ht hu
    refine rng_doKs r s tk _ b hk.2 ht (rngK_of fun x hx => ?_) hb
    rcases setPad_mem hx with hx | rfl | rfl
    · exact rngK_mem ho hx
    · exact rng_nilT'
    · exact m1
theorem rng_doKid (r : Bool) : ∀ (k : KidOf Edit) (tk : List Tree) (u : Tree), rngKid k → rngK tk → doKid r tk k = some u → rng u
  | ⟨a, e⟩, tk, u, hr, ht, h => by
    rw [doKid] at h
    exact rng_do r e _ u hr.2 (rng_get ht _) h
theorem rng_doOs (r : Bool) : ∀ (os : List (OpOf Edit)) (rest out : List Tree) (x : List Tree × List Tree), rngOs os → rngK rest → rngK out → doOs r os rest out = some x → rngK x.1 ∧ rngK x.2
  | [], rest, out, x, _, hr, ho, h => by rw [doOs] at h; cases h; exact ⟨ho, hr⟩
  | o :: s, rest, out, x, hs, hr, ho, h => by
    rw [doOs] at h
    obtain ⟨y, hy, hx⟩ := Option.bind_eq_some_iff.1 h
    have m1 := rng_doOp r o rest out y hs.1 hr ho hy
    exact rng_doOs r s _ _ x hs.2 m1.2 m1.1 hx
theorem rng_doOp (r : Bool) : ∀ (o : OpOf Edit) (rest out : List Tree) (x : List Tree × List Tree), rngOp o → rngK rest → rngK out → doOp r o rest out = some x → rngK x.1 ∧ rngK x.2
  | ⟨k, n, L, e⟩, rest, out, x, hs, hr, ho, h => by
    have he := rng_do r e (rest.getD 0 Tree.nil)
    simp only [rngOp] at hs
    have hd : ∀ n, rngK (rest.drop n) := fun n => rngK_of fun t ht => rngK_mem hr (List.mem_of_mem_drop ht)
    have hap : ∀ l, rngK l → rngK (out ++ l) := fun l hl => rngK_app.2 ⟨ho, hl⟩
    rw [doOp] at h
    split at h
    · split at h
      · cases h
        exact ⟨hap _ (rngK_of fun t ht => rngK_mem hr (List.mem_of_mem_take ht)), hd _⟩
      · cases h
    · split at h
      · split at h
        · cases h
          exact ⟨ho, hd _⟩
        · cases h
      · split at h
        · cases h
          exact ⟨hap _ hs.2.2.1, hr⟩
        · split at h
          · cases h
          · obtain ⟨u, hu, e2⟩ := Option.map_eq_some_iff.1 h
            cases e2
            exact ⟨hap _ ⟨he u hs.2.2.2 (rng_get hr 0) hu, trivial⟩, hd _⟩
end
end Go.AM.Ytpjenobkibfpcaa

namespace Go.AM.Ytpjenobkibfpcaa
open Go.AM Go.Proofs
section
variable {α β : Type} (z : α) (f : β → Option α) (p : β → Int)
def asc (last : Int) : List β → Prop
  | [] => True
  | w :: r => last < p w ∧ asc (p w) r
variable {z f p} {l0 : List α} {ws : List β} {n a i : Int} {out : List α}
theorem asc_gt {last : Int} : ∀ {l : List β}, asc p last l → ∀ w ∈ l, last < p w
  | [], _, _, hw => by cases hw
  | b :: r, h, w, hw => by
    rcases List.mem_cons.1 hw with rfl | hw
    · exact h.1
    · have := asc_gt h.2 w hw
      have := h.1
      omega
end
theorem words_asc : ∀ {ws : List WEdit} {last : Int}, wordsOk last ws = true → asc WEdit.at_ last ws
  | [], _, _ => trivial
  | w :: r, last, h => by
    have h1 := wordsOk_all h w List.mem_cons_self
    simp only [wordsOk, Bool.and_eq_true] at h
    exact ⟨h1.1, words_asc h.2⟩
theorem kids_asc : ∀ {ks : List Kid} {last d : Int}, rightKs last ks d = true → asc KidOf.at_ last ks
  | [], _, _, _ => trivial
  | k :: r, last, d, h => by
    obtain ⟨h1, _, h3⟩ := rightKs_cons h
    exact ⟨h1.1, kids_asc h3⟩
end Go.AM.Ytpjenobkibfpcaa

namespace Go.AM.Ytpjenobkibfpcaa
open Go.AM Go.Proofs
theorem step256 {x y x' y' : Int} (h : x + 256 * y = x' + 256 * y') (hx : 0 ≤ x ∧ x < 256) (hx' : 0 ≤ x' ∧ x' < 256) : x = x' ∧ y = y' := by omega
theorem of8_inj {f g : Nat → Int} (hf : ∀ i, 0 ≤ f i ∧ f i < 256) (hg : ∀ i, 0 ≤ g i ∧ g i < 256) (h : of8 f = of8 g) : ∀ i, i < 8 → f i = g i := by
  unfold of8 at h
  obtain ⟨h0, h⟩ := step256 h (hf 0) (hg 0)
  obtain ⟨h1, h⟩ := step256 h (hf 1) (hg 1)
  obtain ⟨h2, h⟩ := step256 h (hf 2) (hg 2)
  obtain ⟨h3, h⟩ := step256 h (hf 3) (hg 3)
  obtain ⟨h4, h⟩ := step256 h (hf 4) (hg 4)
  obtain ⟨h5, h⟩ := step256 h (hf 5) (hg 5)
  obtain ⟨h6, h7⟩ := step256 h (hf 6) (hg 6)
  intro i hi
  match i, hi with
  | 0, _ => exact h0
  | 1, _ => exact h1
  | 2, _ => exact h2
  | 3, _ => exact h3
  | 4, _ => exact h4
  | 5, _ => exact h5
  | 6, _ => exact h6
  | 7, _ => exact h7
theorem of8_bytes {a : Int} (h : isW a) : of8 (byteAt a) = a := by
  obtain ⟨h0, h1⟩ := h
  simp only [of8, byteAt]
  omega
theorem mix_byte {a b m : Int} {i : Nat} (h : i < 8) : byteAt (mix a b m) i = mixAt a b m i :=
  of8_inj (fun i => byteAt_range _ i) (mixAt_range a b m) (by rw [of8_bytes (mix_in a b m)]; rfl) i h
section
variable {α β : Type} {z : α} {f : β → Option α} {p : β → Int}
end
end Go.AM.Ytpjenobkibfpcaa

namespace Go.AM.Ytpjenobkibfpcaa
open Go.AM Go.Proofs
theorem goneD_iff (l rest : List Tree) : goneD l rest = true ↔ l.length ≤ rest.length ∧ normsT l = normsT (rest.take l.length) := by
  unfold goneD
  rw [Bool.and_eq_true, decide_eq_true_eq, eqX_iff]
end Go.AM.Ytpjenobkibfpcaa

namespace Go.AM.Ytpjenobkibfpcaa
open Go.AM Go.Proofs
theorem massKs_mem' : ∀ {ks : List Kid} {k : Kid}, k ∈ ks → massE k.e ≤ massKs ks
  | ⟨_, _⟩ :: r, k, h => by
    rcases List.mem_cons.1 h with rfl | h
    · simp only [massKs, massKid]; omega
    · have := massKs_mem' h; simp only [massKs]; omega
theorem massOs_mem' : ∀ {os : List Op} {o : Op}, o ∈ os → massOp o ≤ massOs os
  | a :: r, o, h => by
    rcases List.mem_cons.1 h with rfl | h
    · simp only [massOs]; omega
    · have := massOs_mem' h; simp only [massOs]; omega
theorem massOp_le (o : Op) : massE o.e ≤ massOp o := by obtain ⟨k, n, l, e⟩ := o; simp only [massOp]; omega
theorem massE_kid {e : Edit} {k : Kid} (h : k ∈ e.kids) : massE k.e < massE e := by
  obtain ⟨kk, o, n, w, ks, l, os⟩ := e
  have := massKs_mem' (ks := ks) h
  simp only [massE]; omega
theorem massE_op {e : Edit} {o : Op} (h : o ∈ e.ops) : massE o.e < massE e := by
  obtain ⟨kk, ol, n, w, ks, l, os⟩ := e
  have := massOs_mem' (os := os) h
  have := massOp_le o
  simp only [massE]; omega
mutual
theorem right_neg : ∀ (t : Tree) (d m : Int), m < 0 → rightT t d = true → rightT t m = true
  | .mk k w ks, d, m, hm, h => by
    rw [rightT] at h ⊢
    by_cases h0 : k = 0
    · rw [if_pos h0] at h ⊢; exact h
    · rw [if_neg h0] at h ⊢
      by_cases h1 : k = 10
      · rw [if_pos h1] at h ⊢; exact h
      · rw [if_neg h1] at h ⊢
        by_cases h2 : d = 0
        · rw [if_pos h2] at h; cases h
        · rw [if_neg h2] at h
          rw [if_neg (by omega)]
          by_cases h3 : k = 1
          · rw [if_pos h3, Bool.and_eq_true] at h ⊢
            exact ⟨h.1, rightK_neg 1 ks (d - 1) (m - 1) (by omega) h.2⟩
          · rw [if_neg h3, Bool.and_eq_true] at h ⊢
            exact ⟨h.1, rightK_neg k ks (d - 1) (m - 1) (by omega) h.2⟩
theorem rightK_neg (list : Int) : ∀ (ks : List Tree) (d m : Int), m < 0 → rightK list ks d = true → rightK list ks m = true
  | [], _, _, _, _ => rfl
  | t :: r, d, m, hm, h => by
    simp only [rightK, Bool.and_eq_true] at h ⊢
    exact ⟨⟨h.1.1, right_neg t d m hm h.1.2⟩, rightK_neg list r d m hm h.2⟩
end
theorem rightK_iff {list d : Int} : ∀ {ks : List Tree}, rightK list ks d = true ↔ ∀ t ∈ ks, kidB list t = true ∧ rightT t d = true
  | [] => by simp [rightK]
  | t :: r => by
    simp only [rightK, Bool.and_eq_true, rightK_iff (ks := r), List.mem_cons, forall_eq_or_imp]
theorem right_parts {t : Tree} (h : rightT t (-1) = true) : t.kind ≠ 0 → t.kind ≠ 10 →
    (t.kind = 1 → t.words.length < 65536 ∧ t.kids.length < 65536) ∧ (t.kind ≠ 1 → (2 ≤ t.kind ∧ t.kind ≤ 9) ∧ t.words = [] ∧ t.kids.length < 1048576) ∧ ∀ k ∈ t.kids, kidB t.kind k = true ∧ rightT k (-1) = true := by
  obtain ⟨k, w, ks⟩ := t
  intro h0 h1
  have h0 : k ≠ 0 := h0
  have h1 : k ≠ 10 := h1
  rw [rightT, if_neg h0, if_neg h1, if_neg (by decide)] at h
  by_cases h3 : k = 1
  · rw [if_pos h3, Bool.and_eq_true, decide_eq_true_eq, rightK_iff] at h
    subst h3
    exact ⟨fun _ => h.1, fun e => absurd rfl e, fun x hx => ⟨(h.2 x hx).1, right_neg _ _ _ (by decide) (h.2 x hx).2⟩⟩
  · rw [if_neg h3, Bool.and_eq_true, decide_eq_true_eq, rightK_iff] at h
    exact ⟨fun e => absurd e h3, fun _ => ⟨⟨h.1.1, h.1.2.1⟩, List.eq_nil_of_length_eq_zero h.1.2.2.1, h.1.2.2.2⟩, fun x hx => ⟨(h.2 x hx).1, right_neg _ _ _ (by decide) (h.2 x hx).2⟩⟩
theorem right_struct {w : List Int} {ks : List Tree} (h1 : w.length < 65536) (h2 : ks.length < 65536) (h : ∀ k ∈ ks, kidB 1 k = true ∧ rightT k (-1) = true) : rightT (.mk 1 w ks) (-1) = true := by
  rw [rightT, if_neg (by decide), if_neg (by decide), if_neg (by decide), if_pos rfl, Bool.and_eq_true, decide_eq_true_eq, rightK_iff]
  exact ⟨⟨h1, h2⟩, fun x hx => ⟨(h x hx).1, right_neg _ _ _ (by decide) (h x hx).2⟩⟩
theorem right_list {l : Int} {ks : List Tree} (hl : 2 ≤ l ∧ l ≤ 9) (h2 : ks.length < 1048576) (h : ∀ k ∈ ks, kidB l k = true ∧ rightT k (-1) = true) : rightT (.mk l [] ks) (-1) = true := by
  rw [rightT, if_neg (by omega), if_neg (by omega), if_neg (by decide), if_neg (by omega), Bool.and_eq_true, decide_eq_true_eq, rightK_iff]
  exact ⟨⟨hl.1, hl.2, rfl, h2⟩, fun x hx => ⟨(h x hx).1, right_neg _ _ _ (by decide) (h x hx).2⟩⟩
theorem treesOk_mem {D list : Int} : ∀ {l : List Tree}, treesG D list l = true → ∀ t ∈ l, rightT (.mk list [] [t]) D = true
  | a :: r, h, t, ht => by
    simp only [treesG, Bool.and_eq_true] at h
    rcases List.mem_cons.1 ht with rfl | ht
    · exact h.1
    · exact treesOk_mem h.2 t ht
theorem treesOk_right {D list : Int} (hl : 2 ≤ list ∧ list ≤ 9) {l : List Tree} (h : treesG D list l = true) : ∀ t ∈ l, kidB list t = true ∧ rightT t (-1) = true := by
  intro t ht
  have := right_parts (right_neg _ _ (-1) (by decide) (treesOk_mem h t ht)) (by show list ≠ 0; omega) (by show list ≠ 10; omega)
  exact this.2.2 t (by simp)
inductive Run : List Op → List Tree → List Tree → Prop
  | nil : Run [] [] []
  | keep {o r a s d} : o.kind = 0 → (a.length : Int) = o.n → Run r s d → Run (o :: r) (a ++ s) (a ++ d)
  | gone {o r a s d} : o.kind = 1 → normsT o.l = normsT a → Run r s d → Run (o :: r) (a ++ s) d
  | come {o r s d} : o.kind = 2 → Run r s d → Run (o :: r) s (o.l ++ d)
  | into {o r x y s d} : o.kind = 3 → doE false o.e x = some y → Run r s d → Run (o :: r) (x :: s) (y :: d)
def kOk (o : Op) : Prop := (o.kind = 0 ∧ 0 ≤ o.n) ∨ o.kind = 1 ∨ o.kind = 2 ∨ o.kind = 3
theorem run_do : ∀ {os : List Op} {s d : List Tree}, Run os s d → ∀ out, doOs false os s out = some (out ++ d, []) := by
  intro os s d h
  induction h with
  | nil => intro out; simp [doOs]
  | keep h0 hn hr0 ih =>
    rename_i o r a s d
    intro out
    rw [doOs, doOp_at, if_pos h0, if_pos (by rw [List.length_append]; omega), show o.n.toNat = a.length by omega]
    simp only [Option.bind_some, List.take_left, List.drop_left]
    rw [ih, List.append_assoc]
  | gone h1 hn hr0 ih =>
    rename_i o r a s d
    intro out
    have hl := norms_len hn
    rw [doOs, doOp_at, if_neg (by omega), if_pos h1, if_pos]
    · simp only [Option.bind_some]
      rw [hl, List.drop_left, ih]
    · rw [goneD_iff, hl, List.take_left]
      exact ⟨by simp, hn⟩
  | come h2 hr0 ih =>
    intro out
    rw [doOs, doOp_at, if_neg (by omega), if_neg (by omega), if_pos h2]
    simp only [Option.bind_some]
    rw [ih, List.append_assoc]
  | into h3 he hr0 ih =>
    intro out
    rw [doOs, doOp_at, if_neg (by omega), if_neg (by omega), if_neg (by omega), if_neg (by simp)]
    simp only [List.getD_cons_zero, he, Option.map_some, Option.bind_some, List.drop_succ_cons, List.drop_zero]
    rw [ih, List.append_assoc]
    rfl
theorem do_run : ∀ {os : List Op} {s out : List Tree} {x : List Tree × List Tree}, (∀ o ∈ os, kOk o) → doOs false os s out = some x → x.2 = [] → ∃ d, x.1 = out ++ d ∧ Run os s d
  | [], s, out, x, _, h, hx => by
    rw [doOs] at h
    cases h
    have hx : s = [] := hx
    subst hx
    exact ⟨[], by simp, .nil⟩
  | o :: r, s, out, x, hk, h, hx => by
    rw [doOs, doOp_at] at h
    have hr : ∀ o ∈ r, kOk o := fun o ho => hk o (List.mem_cons_of_mem _ ho)
    rcases hk o List.mem_cons_self with h0 | h1 | h2 | h3
    · rw [if_pos h0.1] at h
      split at h
      · rename_i hl
        simp only [Option.bind_some] at h
        obtain ⟨d, e, hd⟩ := do_run hr h hx
        refine ⟨s.take o.n.toNat ++ d, by rw [e, List.append_assoc], ?_⟩
        have := Run.keep (a := s.take o.n.toNat) h0.1 (by rw [List.length_take]; omega) hd
        rwa [List.take_append_drop] at this
      · cases h
    · rw [if_neg (by omega), if_pos h1] at h
      split at h
      · rename_i hg
        obtain ⟨g1, g2⟩ := (goneD_iff _ _).1 hg
        simp only [Option.bind_some] at h
        obtain ⟨d, e, hd⟩ := do_run hr h hx
        refine ⟨d, e, ?_⟩
        have := Run.gone (a := s.take o.l.length) h1 g2 hd
        rwa [List.take_append_drop] at this
      · cases h
    · rw [if_neg (by omega), if_neg (by omega), if_pos h2] at h
      simp only [Option.bind_some] at h
      obtain ⟨d, e, hd⟩ := do_run hr h hx
      exact ⟨o.l ++ d, by rw [e, List.append_assoc], .come h2 hd⟩
    · rw [if_neg (by omega), if_neg (by omega), if_neg (by omega)] at h
      split at h
      · cases h
      · rename_i hl
        obtain ⟨y, hy, h⟩ := Option.bind_eq_some_iff.1 h
        obtain ⟨z, hz, rfl⟩ := Option.map_eq_some_iff.1 hy
        obtain ⟨d, e, hd⟩ := do_run hr h hx
        cases s with
        | nil => simp at hl
        | cons x0 s =>
          refine ⟨z :: d, by rw [e]; simp, .into h3 (by simpa using hz) (by simpa using hd)⟩
theorem list_do {os : List Op} {s d : List Tree} (hk : ∀ o ∈ os, kOk o) : endD (doOs false os s []) = some d ↔ Run os s d := by
  constructor
  · intro h
    unfold endD at h
    obtain ⟨x, hx, h⟩ := Option.bind_eq_some_iff.1 h
    split at h
    · rename_i hl
      cases h
      obtain ⟨d, e, hd⟩ := do_run hk hx (List.eq_nil_of_length_eq_zero hl)
      rw [e]; exact hd
    · cases h
  · intro h
    have := run_do h []
    unfold endD
    rw [this]
    simp
theorem kOk_right {list d : Int} {o : Op} (h : rightOp list o d = true) : kOk o := by
  have := rightOp_all h
  cases this with
  | keep n h1 => exact .inl ⟨rfl, by show 0 ≤ n; omega⟩
  | gone => exact .inr (.inl rfl)
  | come => exact .inr (.inr (.inl rfl))
  | into => exact .inr (.inr (.inr rfl))
theorem run_len : ∀ {os : List Op} {s d : List Tree}, Run os s d → (∀ o ∈ os, opOk o) → (s.length : Int) = sumA os ∧ (d.length : Int) = sumB os := by
  intro os s d h
  induction h with
  | nil => intro _; simp [sumA, sumB]
  | keep h0 hn hr0 ih =>
    rename_i o r a s d
    intro hk
    obtain ⟨i1, i2⟩ := ih fun o ho => hk o (List.mem_cons_of_mem _ ho)
    have ho := hk o List.mem_cons_self
    have hl : opLen o = o.n := by
      rcases ho with h | h | h
      · unfold opLen; rw [if_neg (by omega), h.2.1]; simp
      · omega
      · omega
    simp only [sumA, sumB, List.length_append]
    rw [if_neg (by omega), if_neg (by omega), hl]
    omega
  | gone h1 hn hr0 ih =>
    rename_i o r a s d
    intro hk
    obtain ⟨i1, i2⟩ := ih fun o ho => hk o (List.mem_cons_of_mem _ ho)
    have ho := hk o List.mem_cons_self
    have hl : opLen o = a.length := by
      have := norms_len hn
      rcases ho with h | h | h
      · omega
      · unfold opLen; rw [if_neg (by omega), h.2.1]; omega
      · omega
    simp only [sumA, sumB, List.length_append]
    rw [if_neg (by omega), if_pos h1, hl]
    omega
  | come h2 hr0 ih =>
    rename_i o r s d
    intro hk
    obtain ⟨i1, i2⟩ := ih fun o ho => hk o (List.mem_cons_of_mem _ ho)
    have ho := hk o List.mem_cons_self
    have hl : opLen o = o.l.length := by
      rcases ho with h | h | h
      · omega
      · unfold opLen; rw [if_neg (by omega), h.2.1]; omega
      · omega
    simp only [sumA, sumB, List.length_append]
    rw [if_pos h2, if_neg (by omega), hl]
    omega
  | into h3 he hr0 ih =>
    rename_i o r x y s d
    intro hk
    obtain ⟨i1, i2⟩ := ih fun o ho => hk o (List.mem_cons_of_mem _ ho)
    have hl : opLen o = 1 := by unfold opLen; rw [if_pos h3]
    simp only [sumA, sumB, List.length_cons]
    rw [if_neg (by omega), if_neg (by omega), hl]
    omega
end Go.AM.Ytpjenobkibfpcaa

namespace Go.AM.Ytpjenobkibfpcaa
open Go.AM Go.Proofs
theorem doKs_mem {r : Bool} {tk : List Tree} : ∀ {ks : List Kid} {out b : List Tree}, doKs r tk ks out = some b → (∀ k ∈ ks, k.at_ ≤ 65534) →
    b.length ≤ max out.length 65535 ∧ ∀ y ∈ b, y ∈ out ∨ y = Tree.nil ∨ ∃ k ∈ ks, doE r k.e (tk.getD k.at_.toNat Tree.nil) = some y
  | [], out, b, h, _ => by
    rw [doKs] at h
    cases h
    exact ⟨by omega, fun y hy => .inl hy⟩
  | k :: s, out, b, h, ha => by
    rw [doKs, doKid_at] at h
    obtain ⟨v, hv, hb⟩ := Option.bind_eq_some_iff.1 h
    obtain ⟨i1, i2⟩ := doKs_mem hb fun x hx => ha x (List.mem_cons_of_mem _ hx)
    have := ha k List.mem_cons_self
    rw [setPad_length] at i1
    refine ⟨by omega, fun y hy => ?_⟩
    rcases i2 y hy with h1 | h1 | ⟨q, hq, h1⟩
    · rcases setPad_mem h1 with h1 | h1 | h1
      · exact .inl h1
      · exact .inr (.inl h1)
      · subst h1
        exact .inr (.inr ⟨k, List.mem_cons_self, hv⟩)
    · exact .inr (.inl h1)
    · exact .inr (.inr ⟨q, List.mem_cons_of_mem _ hq, h1⟩)
theorem run_mem : ∀ {os : List Op} {s d : List Tree}, Run os s d → ∀ y ∈ d, y ∈ s ∨ (∃ o ∈ os, o.kind = 2 ∧ y ∈ o.l) ∨ ∃ o ∈ os, o.kind = 3 ∧ ∃ x ∈ s, doE false o.e x = some y := by
  intro os s d h
  induction h with
  | nil => intro y hy; cases hy
  | keep h0 hn hr0 ih =>
    intro y hy
    rcases List.mem_append.1 hy with hy | hy
    · exact .inl (List.mem_append_left _ hy)
    · rcases ih y hy with h | ⟨o, ho, h⟩ | ⟨o, ho, hk, x, hx, h⟩
      · exact .inl (List.mem_append_right _ h)
      · exact .inr (.inl ⟨o, List.mem_cons_of_mem _ ho, h⟩)
      · exact .inr (.inr ⟨o, List.mem_cons_of_mem _ ho, hk, x, List.mem_append_right _ hx, h⟩)
  | gone h1 hn hr0 ih =>
    intro y hy
    rcases ih y hy with h | ⟨o, ho, h⟩ | ⟨o, ho, hk, x, hx, h⟩
    · exact .inl (List.mem_append_right _ h)
    · exact .inr (.inl ⟨o, List.mem_cons_of_mem _ ho, h⟩)
    · exact .inr (.inr ⟨o, List.mem_cons_of_mem _ ho, hk, x, List.mem_append_right _ hx, h⟩)
  | come h2 hr0 ih =>
    intro y hy
    rcases List.mem_append.1 hy with hy | hy
    · exact .inr (.inl ⟨_, List.mem_cons_self, h2, hy⟩)
    · rcases ih y hy with h | ⟨o, ho, h⟩ | ⟨o, ho, hk, x, hx, h⟩
      · exact .inl h
      · exact .inr (.inl ⟨o, List.mem_cons_of_mem _ ho, h⟩)
      · exact .inr (.inr ⟨o, List.mem_cons_of_mem _ ho, hk, x, hx, h⟩)
  | into h3 he hr0 ih =>
    intro y hy
    rcases List.mem_cons.1 hy with rfl | hy
    · exact .inr (.inr ⟨_, List.mem_cons_self, h3, _, List.mem_cons_self, he⟩)
    · rcases ih y hy with h | ⟨o, ho, h⟩ | ⟨o, ho, hk, x, hx, h⟩
      · exact .inl (List.mem_cons_of_mem _ h)
      · exact .inr (.inl ⟨o, List.mem_cons_of_mem _ ho, h⟩)
      · exact .inr (.inr ⟨o, List.mem_cons_of_mem _ ho, hk, x, List.mem_cons_of_mem _ hx, h⟩)
theorem kidB_1 {y : Tree} (h : y.kind ≠ 10) : kidB 1 y = true := by
  unfold kidB
  rw [if_neg (by decide), if_neg (by decide)]
  exact decide_eq_true h
theorem opOk_right {list d : Int} {os : List Op} (h : rightOs list os d = true) : ∀ o ∈ os, opOk o := fun o ho => rightOp_ok (rightOs_mem h ho)
theorem opLen_nonneg {o : Op} (h : opOk o) : 0 ≤ opLen o := by have := opLen_pos h; omega
theorem do_kind {e : Edit} {d : Int} {t u : Tree} (hr : rightE e d = true) (h : doE false e t = some u) : (e.kind = 1 → u = e.new) ∧ (e.kind = 2 → u.kind = 1 ∧ t.kind = 1) ∧ (e.kind = 3 → u.kind = e.list ∧ t.kind = e.list) ∧ (e.kind = 0 → u = t) := by
  rw [doE_at, nrD_false] at h
  refine ⟨fun hk => ?_, fun hk => ?_, fun hk => ?_, fun hk => ?_⟩
  · rw [if_neg (by omega), if_pos hk] at h
    split at h
    · exact (Option.some.inj h).symm
    · cases h
  · rw [if_neg (by omega), if_neg (by omega), if_pos hk] at h
    split at h
    · rename_i ht
      obtain ⟨a, ha, h⟩ := Option.bind_eq_some_iff.1 h
      obtain ⟨b, hb, rfl⟩ := Option.map_eq_some_iff.1 h
      exact ⟨rfl, ht⟩
    · cases h
  · rw [if_neg (by omega), if_neg (by omega), if_neg (by omega), if_pos hk] at h
    split at h
    · rename_i ht
      obtain ⟨b, hb, rfl⟩ := Option.map_eq_some_iff.1 h
      exact ⟨rfl, ht⟩
    · cases h
  · rw [if_pos hk] at h
    exact (Option.some.inj h).symm
theorem do_right' : ∀ (n : Nat) (e : Edit) (d : Int) (t u : Tree), massE e ≤ n → rightE e d = true → rightT t (-1) = true → doE false e t = some u → rightT u (-1) = true ∧ (e.kind ≠ 0 → u.kind ≠ 10) := by
  intro n
  induction n with
  | zero => intro e d t u hm; obtain ⟨k, o, nw, w, ks, l, os⟩ := e; simp only [massE] at hm; omega
  | succ n ih =>
    intro e d t u hm hr ht h
    have R := rightE_all hr
    obtain ⟨k1, k2, k3, k0⟩ := do_kind hr h
    have hk := R.kind
    by_cases h0 : e.kind = 0
    · rw [k0 h0]; exact ⟨ht, fun q => absurd h0 q⟩
    by_cases h1 : e.kind = 1
    · rw [k1 h1]
      obtain ⟨r1, r2, r3, r4⟩ := R.rep h1
      exact ⟨right_neg _ _ _ (by decide) r2, fun _ => r4⟩
    by_cases h2 : e.kind = 2
    · obtain ⟨u1, t1⟩ := k2 h2
      refine ⟨?_, fun _ => by omega⟩
      rw [doE_at, nrD_false, if_neg h0, if_neg h1, if_pos h2, if_pos t1] at h
      obtain ⟨a, ha, h⟩ := Option.bind_eq_some_iff.1 h
      obtain ⟨b, hb, rfl⟩ := Option.map_eq_some_iff.1 h
      obtain ⟨p1, _, p3⟩ := right_parts ht (by omega) (by omega)
      have p1 := p1 t1
      rw [t1] at p3
      have hl := wsD_len R.words ha
      have ha' := rightKs_all R.kids
      obtain ⟨m1, m2⟩ := doKs_mem hb fun k hk => (ha' k hk).1.2.1
      refine right_struct (by omega) (by omega) fun y hy => ?_
      rcases m2 y hy with h | rfl | ⟨k, hk, h⟩
      · exact p3 y h
      · exact ⟨rfl, rfl⟩
      · have hx : rightT (t.kids.getD k.at_.toNat Tree.nil) (-1) = true := by
          by_cases hi : k.at_.toNat < t.kids.length
          · rw [List.getD_eq_getElem?_getD, List.getElem?_eq_getElem hi]
            exact (p3 _ (List.getElem_mem hi)).2
          · rw [List.getD_eq_getElem?_getD, List.getElem?_eq_none (by omega)]; rfl
        obtain ⟨g1, g2⟩ := ih k.e _ _ y (by have := massE_kid hk; omega) (ha' k hk).2 hx h
        exact ⟨kidB_1 (g2 (ha' k hk).1.2.2), g1⟩
    · have h3 : e.kind = 3 := by omega
      obtain ⟨u1, t1⟩ := k3 h3
      have hli := R.list h3
      refine ⟨?_, fun _ => by omega⟩
      rw [doE_at, nrD_false, if_neg h0, if_neg h1, if_neg h2, if_pos h3, if_pos t1] at h
      obtain ⟨b, hb, rfl⟩ := Option.map_eq_some_iff.1 h
      have ho : ∀ o ∈ e.ops, rightOp e.list o (d - 1) = true := fun o h => rightOs_mem R.ops h
      have hrun := (list_do (fun o h => kOk_right (ho o h))).1 hb
      obtain ⟨_, q2⟩ := run_len hrun (opOk_right R.ops)
      obtain ⟨q3, q4⟩ := lenB_sum e.ops 0 (fun o h => opLen_nonneg (opOk_right R.ops o h)) (by decide) (by decide)
      have q5 := R.len.2
      obtain ⟨_, _, p3⟩ := right_parts ht (by omega) (by omega)
      rw [t1] at p3
      refine right_list hli (by omega) fun y hy => ?_
      rcases run_mem hrun y hy with h | ⟨o, hoo, hk2, hyl⟩ | ⟨o, hoo, hk3, x, hx, h⟩
      · exact p3 y h
      · have := rightOp_all (ho o hoo)
        cases this with
        | come l h1 h2 => exact treesOk_right hli h1 y hyl
        | keep | gone | into => exact absurd hk2 (by simp)
      · have := rightOp_all (ho o hoo)
        cases this with
        | into e' g1 g2 g3 g4 =>
          obtain ⟨f1, f2⟩ := ih e' _ x y (by have := massE_op hoo; dsimp only at this; omega) g1 (p3 x hx).2 h
          refine ⟨?_, f1⟩
          obtain ⟨j1, j2, _, _⟩ := do_kind g1 h
          unfold kidB
          rw [if_neg (by omega)]
          by_cases hl9 : e.list = 9
          · rw [if_pos hl9]
            refine decide_eq_true ?_
            rcases g4 with q | q | q
            · omega
            · exact (j2 q).1
            · rw [j1 q.1]; exact q.2.2
          · rw [if_neg hl9]
            exact decide_eq_true (f2 g2)
        | keep | gone | come => exact absurd hk3 (by simp)
end Go.AM.Ytpjenobkibfpcaa

namespace Go.AM
def widN (m : Nat) : Nat → Nat
  | 0 => 0
  | i + 1 => widN m i + if m / 2 ^ i % 2 = 1 then 255 * 2 ^ (8 * i) else 0
def widW : Nat → Nat → Nat
  | 0, _ => 0
  | k + 1, m => (if m % 2 = 1 then 255 else 0) + 256 * widW k (m / 2)
def pickW : Nat → Nat → Nat → Nat
  | 0, _, _ => 0
  | k + 1, a, m => (if m % 2 = 1 then a % 256 else 0) + 256 * pickW k (a / 256) (m / 2)
def mixW : Nat → Nat → Nat → Nat → Nat
  | 0, _, _, _ => 0
  | k + 1, a, b, m => (if m % 2 = 1 then b % 256 else a % 256) + 256 * mixW k (a / 256) (b / 256) (m / 2)
theorem and_split (x y u v : Nat) (hu : u < 256) (hv : v < 256) : (u + 256 * x) &&& (v + 256 * y) = (u &&& v) + 256 * (x &&& y) := by
  have h : u &&& v < 256 := Nat.and_lt_two_pow (n := 8) u hv
  apply Nat.eq_of_testBit_eq
  intro j
  rw [Nat.add_comm u, Nat.add_comm v, Nat.add_comm (u &&& v), Nat.testBit_and]
  rw [show (256 : Nat) = 2 ^ 8 from rfl, Nat.testBit_two_pow_mul_add _ hu, Nat.testBit_two_pow_mul_add _ hv, Nat.testBit_two_pow_mul_add _ h]
  split <;> rw [Nat.testBit_and]
theorem or_split (x y u v : Nat) (hu : u < 256) (hv : v < 256) : (u + 256 * x) ||| (v + 256 * y) = (u ||| v) + 256 * (x ||| y) := by
  have h : u ||| v < 256 := Nat.or_lt_two_pow (n := 8) hu hv
  apply Nat.eq_of_testBit_eq
  intro j
  rw [Nat.add_comm u, Nat.add_comm v, Nat.add_comm (u ||| v), Nat.testBit_or]
  rw [show (256 : Nat) = 2 ^ 8 from rfl, Nat.testBit_two_pow_mul_add _ hu, Nat.testBit_two_pow_mul_add _ hv, Nat.testBit_two_pow_mul_add _ h]
  split <;> rw [Nat.testBit_or]
theorem and_wide : ∀ (k a m : Nat), a &&& widW k m = pickW k a m
  | 0, a, m => by simp [widW, pickW]
  | k + 1, a, m => by
    have e : a = a % 256 + 256 * (a / 256) := by omega
    simp only [widW, pickW]
    rw [← and_wide k (a / 256) (m / 2)]
    have h : a &&& ((if m % 2 = 1 then 255 else 0) + 256 * widW k (m / 2)) = (a % 256 + 256 * (a / 256)) &&& ((if m % 2 = 1 then 255 else 0) + 256 * widW k (m / 2)) := by rw [← e]
    rw [h, and_split _ _ _ _ (by omega) (by split <;> omega)]
    congr 1
    split
    · have := Nat.and_two_pow_sub_one_eq_mod (a % 256) 8
      simp only [show (2 : Nat) ^ 8 - 1 = 255 from rfl, show (2 : Nat) ^ 8 = 256 from rfl, Nat.mod_mod] at this
      exact this
    · simp
theorem or_pick : ∀ (k a b m n : Nat), (∀ i < k, m / 2 ^ i % 2 + n / 2 ^ i % 2 = 1) → pickW k a n ||| pickW k b m = mixW k a b m
  | 0, a, b, m, n, _ => by simp [pickW, mixW]
  | k + 1, a, b, m, n, h => by
    simp only [pickW, mixW]
    have h0 := h 0 (by omega)
    simp only [Nat.pow_zero, Nat.div_one] at h0
    rw [or_split _ _ _ _ (by split <;> omega) (by split <;> omega), or_pick k (a / 256) (b / 256) (m / 2) (n / 2) (fun i hi => by
      have := h (i + 1) (by omega)
      rw [Nat.div_div_eq_div_mul, Nat.div_div_eq_div_mul]
      rw [Nat.pow_succ, Nat.mul_comm] at this
      exact this)]
    congr 1
    by_cases hm : m % 2 = 1
    · rw [if_pos hm, if_pos hm, if_neg (by omega)]; simp
    · rw [if_neg hm, if_neg hm, if_pos (by omega)]; simp
theorem widN_eq : ∀ m : Fin 256, widN m.1 8 = widW 8 m.1 := by decide +kernel
theorem widW_not : ∀ m : Fin 256, 2 ^ 64 - 1 - widW 8 m.1 = widW 8 (255 - m.1) := by decide +kernel
theorem bits_not : ∀ m : Fin 256, ∀ i : Fin 8, m.1 / 2 ^ i.1 % 2 + (255 - m.1) / 2 ^ i.1 % 2 = 1 := by decide +kernel
theorem widW_lt : ∀ m : Fin 256, widW 8 m.1 < 2 ^ 64 := by decide +kernel
theorem mix_bits (a b m : Nat) (hm : m < 256) : (a &&& (2 ^ 64 - 1 - widN m 8)) ||| (b &&& widN m 8) = mixW 8 a b m := by
  have h1 := widN_eq ⟨m, hm⟩
  have h2 := widW_not ⟨m, hm⟩
  simp only at h1 h2
  rw [h1, h2, and_wide, and_wide]
  exact or_pick 8 a b m (255 - m) (fun i hi => bits_not ⟨m, hm⟩ ⟨i, hi⟩)
def ofK : Nat → (Nat → Nat) → Nat
  | 0, _ => 0
  | k + 1, f => f 0 + 256 * ofK k (fun i => f (i + 1))
theorem ofK_congr : ∀ (k : Nat) {f g : Nat → Nat}, (∀ i, f i = g i) → ofK k f = ofK k g
  | 0, _, _, _ => rfl
  | k + 1, f, g, h => by simp only [ofK, h 0, ofK_congr k (fun i => h (i + 1))]
theorem mixW_of : ∀ (k a b m : Nat), mixW k a b m = ofK k (fun i => if m / 2 ^ i % 2 = 1 then b / 256 ^ i % 256 else a / 256 ^ i % 256)
  | 0, _, _, _ => rfl
  | k + 1, a, b, m => by
    simp only [mixW, ofK, Nat.pow_zero, Nat.div_one]
    rw [mixW_of k, ofK_congr k (g := fun i => if m / 2 ^ (i + 1) % 2 = 1 then b / 256 ^ (i + 1) % 256 else a / 256 ^ (i + 1) % 256) (fun i => ?_)]
    rw [Nat.div_div_eq_div_mul, Nat.div_div_eq_div_mul, Nat.div_div_eq_div_mul, Nat.pow_succ', Nat.pow_succ']
theorem mixW_mix (a b m : Nat) : ((mixW 8 a b m : Nat) : Int) = mix a b m := by
  have nm : ∀ i : Nat, named (m : Int) (i : Int) = decide (m / 2 ^ i % 2 = 1) := by
    intro i
    unfold named
    rw [decide_eq_decide, Int.toNat_natCast]
    have : ((m : Int) / 2 ^ i % 2 : Int) = ((m / 2 ^ i % 2 : Nat) : Int) := by rw [Int.natCast_emod, Int.natCast_ediv, Int.natCast_pow]; rfl
    rw [this]; omega
  have by_ : ∀ (x i : Nat), byteAt (x : Int) i = ((x / 256 ^ i % 256 : Nat) : Int) := by
    intro x i
    unfold byteAt
    rw [Int.natCast_emod, Int.natCast_ediv, Int.natCast_pow]
    rfl
  have mx : ∀ i : Nat, mixAt (a : Int) (b : Int) (m : Int) i = ((if m / 2 ^ i % 2 = 1 then b / 256 ^ i % 256 else a / 256 ^ i % 256 : Nat) : Int) := by
    intro i
    unfold mixAt
    rw [nm, by_, by_]
    by_cases h : m / 2 ^ i % 2 = 1
    · rw [decide_eq_true h, if_pos rfl, if_pos h]
    · rw [decide_eq_false h, if_neg Bool.false_ne_true, if_neg h]
  rw [mixW_of]
  generalize hf : (fun i => if m / 2 ^ i % 2 = 1 then b / 256 ^ i % 256 else a / 256 ^ i % 256) = f
  have hx : ∀ i, mixAt (a : Int) (b : Int) (m : Int) i = (f i : Int) := by intro i; rw [mx, ← hf]
  have e : ofK 8 f = f 0 + 256 * (f 1 + 256 * (f 2 + 256 * (f 3 + 256 * (f 4 + 256 * (f 5 + 256 * (f 6 + 256 * (f 7 + 256 * 0))))))) := rfl
  rw [e]
  simp only [mix, of8, hx]
  omega
end Go.AM

namespace Go.AM
def andM (a b : Int) : Int := IntKind.wrap .u8 (BitVec.ofInt (IntKind.bits .u8) a &&& BitVec.ofInt (IntKind.bits .u8) b).toNat
def orM (a b : Int) : Int := IntKind.wrap .u8 (BitVec.ofInt (IntKind.bits .u8) a ||| BitVec.ofInt (IntKind.bits .u8) b).toNat
def comWok (p q : WEdit) : Bool := decide (mix 0 p.new (andM p.mask q.mask) = mix 0 q.old (andM p.mask q.mask))
def comW (p q : WEdit) : WEdit × Bool :=
  if comWok p q then (⟨p.at_, orM p.mask q.mask, mix q.old p.old p.mask, mix p.new q.new q.mask⟩, true) else (⟨0, 0, 0, 0⟩, false)
def mergeF {α : Type} (at_ : α → Int) (one : α → α → α × Bool) : List α → List α → Option (List α)
  | [], q => some q
  | a :: p, [] => some (a :: p)
  | a :: p, b :: q =>
    if at_ a < at_ b then (mergeF at_ one p (b :: q)).map (a :: ·)
    else if at_ b < at_ a then (mergeF at_ one (a :: p) q).map (b :: ·)
    else if (one a b).2 then (mergeF at_ one p q).map ((one a b).1 :: ·) else none
termination_by p q => p.length + q.length
def ofO {α : Type} (o : Option (List α)) : List α := o.getD []
structure PRes where
  op : Op
  is : Bool
  ok : Bool
noncomputable def doB (e : Edit) (t : Tree) : Tree × Bool := (orNil ((doE false e t).map normT), (doE false e t).isSome)
noncomputable def eqvL (a b : List Tree) : Bool := eqX (normsT a) (normsT b)
noncomputable def comP (f : Edit → Edit → Edit × Bool) (x : Piece) : PRes :=
  if x.of = 1 ∨ (x.of = 0 ∧ x.q.kind = 0) then ⟨x.p, true, true⟩
  else if x.of = 2 ∨ x.p.kind = 0 then ⟨x.q, true, true⟩
  else if x.p.kind = 2 ∧ x.q.kind = 1 then ⟨Op.nil, false, eqvL x.p.l (x.q.l.take x.p.l.length)⟩
  else if x.p.kind = 2 then ⟨⟨2, 0, [(doB x.q.e (x.p.l.getD 0 Tree.nil)).1], Edit.nil⟩, true, (doB x.q.e (x.p.l.getD 0 Tree.nil)).2⟩
  else if x.q.kind = 1 then ⟨⟨1, 0, [(doB (nrmE (turnE x.p.e)) (x.q.l.getD 0 Tree.nil)).1], Edit.nil⟩, true, (doB (nrmE (turnE x.p.e)) (x.q.l.getD 0 Tree.nil)).2⟩
  else ⟨⟨3, 0, [], (f x.p.e x.q.e).1⟩, true, (f x.p.e x.q.e).2⟩
noncomputable def comPs (f : Edit → Edit → Edit × Bool) : List Piece → Option (List Op)
  | [] => some []
  | x :: r => if (comP f x).ok then (comPs f r).map ((if (comP f x).is then [(comP f x).op] else []) ++ ·) else none
noncomputable def comOs (f : Edit → Edit → Edit × Bool) (p q : List Op) : Option (List Op) :=
  if (pairG 1 2 p q []).2.1 then comPs f (pairG 1 2 p q []).1 else none
def comK (f : Edit → Edit → Edit × Bool) (a b : Kid) : Kid × Bool := (⟨a.at_, (f a.e b.e).1⟩, (f a.e b.e).2)
noncomputable def comStep (f : Edit → Edit → Edit × Bool) (p q : Edit) : Edit × Bool :=
  if p.kind = 0 then (q, true)
  else if q.kind = 0 then (p, true)
  else if p.kind = 1 then (.mk 1 p.old (doB q p.new).1 [] [] 0 [], (doB q p.new).2)
  else if q.kind = 1 then (.mk 1 (doB (nrmE (turnE p)) q.old).1 q.new [] [] 0 [], (doB (nrmE (turnE p)) q.old).2)
  else if p.kind ≠ q.kind ∨ p.list ≠ q.list then (Edit.nil, false)
  else if p.kind = 2 then
    if (mergeF WEdit.at_ comW p.words q.words).isSome then
      (.mk 2 Tree.nil Tree.nil (ofO (mergeF WEdit.at_ comW p.words q.words)) (ofO (mergeF KidOf.at_ (comK f) p.kids q.kids)) 0 [], (mergeF KidOf.at_ (comK f) p.kids q.kids).isSome)
    else (Edit.nil, false)
  else (.mk 3 Tree.nil Tree.nil [] [] p.list (ofO (comOs f p.ops q.ops)), (comOs f p.ops q.ops).isSome)
noncomputable def comF : Nat → Edit → Edit → Edit × Bool
  | 0, _, _ => (Edit.nil, false)
  | n + 1, p, q => comStep (comF n) p q
noncomputable def comE (p q : Edit) : Edit × Bool := comF (massE p + massE q) p q
def reOk (e : Edit) : Prop := ctE e ≤ 9000000000 ∧ rngE e ∧ ∃ d, rightE e d = true
def kidOk (k : Kid) : Prop := ctKid k ≤ 9000000000 ∧ rngKid k ∧ ∃ d, rightE k.e d = true
def rkOk (l : List Kid) : Prop := ctKs l ≤ 9000000000 ∧ rngKs l ∧ ∀ k ∈ l, ∃ d, rightE k.e d = true
def roOk (l : List Op) : Prop := ctOs l ≤ 9000000000 ∧ rngOs l ∧ ∀ o ∈ l, ∃ list d, rightOp list o d = true
def sideOk (o : Op) : Prop := opOk o ∧ ctOp o ≤ 9000000000 ∧ rngOp o ∧ (o.kind = 3 → ∃ d, rightE o.e d = true)
structure PcOk (x : Piece) : Prop where
  of : x.of = 0 ∨ x.of = 1 ∨ x.of = 2
  pp : x.of ≠ 2 → sideOk x.p
  qq : x.of ≠ 1 → sideOk x.q
  both : x.of = 0 → x.p.kind ≠ 1 ∧ x.q.kind ≠ 2 ∧ opLen x.p = opLen x.q
end Go.AM

namespace Go.AM.Ytpjenobkibfpcaa
open Go.AM Go.Proofs
theorem run_keep {o : Op} {r : List Op} {s d : List Tree} (h0 : o.kind = 0) : Run (o :: r) s d ↔ ∃ a s' d', s = a ++ s' ∧ d = a ++ d' ∧ (a.length : Int) = o.n ∧ Run r s' d' := by
  constructor
  · intro h
    cases h with
    | keep _ h2 h3 => exact ⟨_, _, _, rfl, rfl, h2, h3⟩
    | gone h1 => omega
    | come h1 => omega
    | into h1 => omega
  · rintro ⟨a, s', d', rfl, rfl, h2, h3⟩
    exact .keep h0 h2 h3
theorem run_gone {o : Op} {r : List Op} {s d : List Tree} (h0 : o.kind = 1) : Run (o :: r) s d ↔ ∃ a s', s = a ++ s' ∧ normsT o.l = normsT a ∧ Run r s' d := by
  constructor
  · intro h
    cases h with
    | gone _ h2 h3 => exact ⟨_, _, rfl, h2, h3⟩
    | keep h1 => omega
    | come h1 => omega
    | into h1 => omega
  · rintro ⟨a, s', rfl, h2, h3⟩
    exact .gone h0 h2 h3
theorem run_come {o : Op} {r : List Op} {s d : List Tree} (h0 : o.kind = 2) : Run (o :: r) s d ↔ ∃ d', d = o.l ++ d' ∧ Run r s d' := by
  constructor
  · intro h
    cases h with
    | come _ h3 => exact ⟨_, rfl, h3⟩
    | keep h1 => omega
    | gone h1 => omega
    | into h1 => omega
  · rintro ⟨d', rfl, h3⟩
    exact .come h0 h3
theorem run_into {o : Op} {r : List Op} {s d : List Tree} (h0 : o.kind = 3) : Run (o :: r) s d ↔ ∃ x s' y d', s = x :: s' ∧ d = y :: d' ∧ doE false o.e x = some y ∧ Run r s' d' := by
  constructor
  · intro h
    cases h with
    | into _ h2 h3 => exact ⟨_, _, _, _, rfl, rfl, h2, h3⟩
    | keep h1 => omega
    | gone h1 => omega
    | come h1 => omega
  · rintro ⟨x, s', y, d', rfl, rfl, h2, h3⟩
    exact .into h0 h2 h3
theorem run_congr {o : Op} {p r : List Op} (h : ∀ s d, Run p s d ↔ Run r s d) (hk : kOk o) (s d : List Tree) : Run (o :: p) s d ↔ Run (o :: r) s d := by
  rcases hk with h0 | h1 | h2 | h3
  · rw [run_keep h0.1, run_keep h0.1]; simp only [h]
  · rw [run_gone h1, run_gone h1]; simp only [h]
  · rw [run_come h2, run_come h2]; simp only [h]
  · rw [run_into h3, run_into h3]; simp only [h]
theorem opOk_k {o : Op} (h : opOk o) : kOk o := by
  rcases h with h | h | h
  · exact .inl ⟨h.1, by omega⟩
  · rcases h.1 with h1 | h1
    · exact .inr (.inl h1)
    · exact .inr (.inr (.inl h1))
  · exact .inr (.inr (.inr h.1))
theorem opLen_0 {o : Op} (h : opOk o) (h0 : o.kind = 0) : opLen o = o.n := by
  rcases h with h | h | h
  · unfold opLen; rw [if_neg (by omega), h.2.1]; simp
  · omega
  · omega
theorem opLen_12 {o : Op} (h : opOk o) (h0 : o.kind = 1 ∨ o.kind = 2) : opLen o = o.l.length := by
  rcases h with h | h | h
  · omega
  · unfold opLen; rw [if_neg (by omega), h.2.1]; omega
  · omega
theorem opLen_3 {o : Op} (h0 : o.kind = 3) : opLen o = 1 := by unfold opLen; rw [if_pos h0]
theorem run_out {o : Op} {r : List Op} {s m : List Tree} (ho : opOk o) (hk : o.kind ≠ 1) (h : Run (o :: r) s m) : ∃ m1 s' m', m = m1 ++ m' ∧ (m1.length : Int) = opLen o ∧ Run r s' m' := by
  rcases opOk_k ho with h0 | h1 | h2 | h3
  · obtain ⟨a, s', d', _, rfl, hl, hr⟩ := (run_keep h0.1).1 h
    exact ⟨a, s', d', rfl, by rw [opLen_0 ho h0.1]; exact hl, hr⟩
  · exact absurd h1 hk
  · obtain ⟨d', rfl, hr⟩ := (run_come h2).1 h
    exact ⟨o.l, s, d', rfl, by rw [opLen_12 ho (.inr h2)], hr⟩
  · obtain ⟨x, s', y, d', _, rfl, _, hr⟩ := (run_into h3).1 h
    exact ⟨[y], s', d', rfl, by rw [opLen_3 h3]; rfl, hr⟩
theorem run_in {o : Op} {r : List Op} {m d : List Tree} (ho : opOk o) (hk : o.kind ≠ 2) (h : Run (o :: r) m d) : ∃ m1 m' d', m = m1 ++ m' ∧ (m1.length : Int) = opLen o ∧ Run r m' d' := by
  rcases opOk_k ho with h0 | h1 | h2 | h3
  · obtain ⟨a, s', d', rfl, _, hl, hr⟩ := (run_keep h0.1).1 h
    exact ⟨a, s', d', rfl, by rw [opLen_0 ho h0.1]; exact hl, hr⟩
  · obtain ⟨a, s', rfl, hn, hr⟩ := (run_gone h1).1 h
    exact ⟨a, s', d, rfl, by rw [opLen_12 ho (.inl h1), norms_len hn], hr⟩
  · exact absurd h2 hk
  · obtain ⟨x, s', y, d', rfl, _, _, hr⟩ := (run_into h3).1 h
    exact ⟨[x], s', d', rfl, by rw [opLen_3 h3]; rfl, hr⟩
theorem run_split {o : Op} {r : List Op} {n : Int} (ho : opOk o) (h1 : 1 ≤ n) (hn : ¬ opLen o ≤ n) (s d : List Tree) : Run (o :: r) s d ↔ Run (takeF o n :: backF o n :: r) s d := by
  unfold takeF backF
  rw [if_neg hn]
  rcases opOk_k ho with h0 | hg | hc | hi
  · have hl := opLen_0 ho h0.1
    rw [if_pos h0.1, if_pos h0.1, run_keep h0.1, run_keep (o := ⟨o.kind, n, o.l, o.e⟩) h0.1]
    constructor
    · rintro ⟨a, s', d', rfl, rfl, ha, hr⟩
      refine ⟨a.take n.toNat, a.drop n.toNat ++ s', a.drop n.toNat ++ d', by rw [← List.append_assoc, List.take_append_drop], by rw [← List.append_assoc, List.take_append_drop], by rw [List.length_take]; dsimp only; omega, ?_⟩
      exact (run_keep (o := ⟨o.kind, o.n - n, o.l, o.e⟩) h0.1).2 ⟨a.drop n.toNat, s', d', rfl, rfl, by rw [List.length_drop]; dsimp only; omega, hr⟩
    · rintro ⟨a, s', d', rfl, rfl, ha, hr⟩
      obtain ⟨b, s2, d2, rfl, rfl, hb, hr2⟩ := (run_keep (o := ⟨o.kind, o.n - n, o.l, o.e⟩) h0.1).1 hr
      dsimp only at ha hb
      exact ⟨a ++ b, s2, d2, by rw [List.append_assoc], by rw [List.append_assoc], by rw [List.length_append]; omega, hr2⟩
  · have hl := opLen_12 ho (.inl hg)
    rw [if_neg (by omega), if_neg (by omega), run_gone hg, run_gone (o := ⟨o.kind, o.n, o.l.take n.toNat, o.e⟩) hg]
    constructor
    · rintro ⟨a, s', rfl, ha, hr⟩
      have hla := norms_len ha
      refine ⟨a.take n.toNat, a.drop n.toNat ++ s', by rw [← List.append_assoc, List.take_append_drop], EqvL.take ha _, ?_⟩
      exact (run_gone (o := ⟨o.kind, o.n, o.l.drop n.toNat, o.e⟩) hg).2 ⟨a.drop n.toNat, s', rfl, EqvL.drop ha _, hr⟩
    · rintro ⟨a, s', rfl, ha, hr⟩
      obtain ⟨b, s2, rfl, hb, hr2⟩ := (run_gone (o := ⟨o.kind, o.n, o.l.drop n.toNat, o.e⟩) hg).1 hr
      refine ⟨a ++ b, s2, by rw [List.append_assoc], ?_, hr2⟩
      have := norms_app ha hb
      rwa [List.take_append_drop] at this
  · rw [if_neg (by omega), if_neg (by omega), run_come hc, run_come (o := ⟨o.kind, o.n, o.l.take n.toNat, o.e⟩) hc]
    constructor
    · rintro ⟨d', rfl, hr⟩
      refine ⟨o.l.drop n.toNat ++ d', by rw [← List.append_assoc, List.take_append_drop], ?_⟩
      exact (run_come (o := ⟨o.kind, o.n, o.l.drop n.toNat, o.e⟩) hc).2 ⟨d', rfl, hr⟩
    · rintro ⟨d', rfl, hr⟩
      obtain ⟨d2, rfl, hr2⟩ := (run_come (o := ⟨o.kind, o.n, o.l.drop n.toNat, o.e⟩) hc).1 hr
      exact ⟨d2, by rw [← List.append_assoc, List.take_append_drop], hr2⟩
  · rw [opLen_3 hi] at hn
    omega
def sideP : List Piece → List Op
  | [] => []
  | x :: r => (if x.of = 2 then [] else [x.p]) ++ sideP r
def sideQ : List Piece → List Op
  | [] => []
  | x :: r => (if x.of = 1 then [] else [x.q]) ++ sideQ r
def Part (l : List Op) (o : Op) : Prop := ∃ o' ∈ l, o.kind = o'.kind ∧ o.e = o'.e ∧ massOp o ≤ massOp o' ∧ ∀ t ∈ o.l, t ∈ o'.l
structure POk (p q : List Op) (x : Piece) : Prop where
  of : x.of = 0 ∨ x.of = 1 ∨ x.of = 2
  pp : x.of ≠ 2 → Part p x.p ∧ opOk x.p
  qq : x.of ≠ 1 → Part q x.q ∧ opOk x.q
  one : x.of = 1 → x.p.kind = 1
  two : x.of = 2 → x.q.kind = 2
  both : x.of = 0 → x.p.kind ≠ 1 ∧ x.q.kind ≠ 2 ∧ opLen x.p = opLen x.q
  pn : x.of = 2 → x.p = Op.nil
  qn : x.of = 1 → x.q = Op.nil
theorem Part.mono {l l' : List Op} {o : Op} (h : Part l o) (hl : ∀ x ∈ l, Part l' x) : Part l' o := by
  obtain ⟨o', h1, h2, h3, h5, h4⟩ := h
  obtain ⟨o2, g1, g2, g3, g5, g4⟩ := hl o' h1
  exact ⟨o2, g1, h2.trans g2, h3.trans g3, Nat.le_trans h5 g5, fun t ht => g4 t (h4 t ht)⟩
theorem Part.self {l : List Op} {o : Op} (h : o ∈ l) : Part l o := ⟨o, h, rfl, rfl, Nat.le_refl _, fun _ h => h⟩
theorem POk.mono {p q p' q' : List Op} {x : Piece} (h : POk p q x) (hp : ∀ x ∈ p, Part p' x) (hq : ∀ x ∈ q, Part q' x) : POk p' q' x :=
  ⟨h.of, fun e => ⟨(h.pp e).1.mono hp, (h.pp e).2⟩, fun e => ⟨(h.qq e).1.mono hq, (h.qq e).2⟩, h.one, h.two, h.both, h.pn, h.qn⟩
theorem take_row {o : Op} {r : List Op} {n : Int} (h : ∀ x ∈ o :: r, opOk x) (h1 : 1 ≤ n) (hn : n ≤ opLen o) :
    opOk (takeF o n) ∧ opLen (takeF o n) = n ∧ (takeF o n).kind = o.kind ∧ Part (o :: r) (takeF o n) ∧ (∀ x ∈ takeR (o :: r) n, opOk x ∧ Part (o :: r) x) ∧ ∀ s d, Run (o :: r) s d ↔ Run (takeF o n :: takeR (o :: r) n) s d := by
  have ho := h o List.mem_cons_self
  have hr : ∀ x ∈ r, opOk x ∧ Part (o :: r) x := fun x hx => ⟨h x (List.mem_cons_of_mem _ hx), Part.self (List.mem_cons_of_mem _ hx)⟩
  unfold takeR
  simp only [List.getD_cons_zero, List.drop_succ_cons, List.drop_zero]
  by_cases hl : opLen o ≤ n
  · rw [if_pos hl]
    have e : takeF o n = o := by unfold takeF; rw [if_pos hl]
    rw [e]
    exact ⟨ho, by omega, rfl, Part.self List.mem_cons_self, hr, fun s d => Iff.rfl⟩
  · rw [if_neg hl]
    obtain ⟨_, v2, v3, v4⟩ := vs_split (a := 1) ho h1 hl
    obtain ⟨b1, b2⟩ := backF_ok ho h1 hl
    refine ⟨v2, v3, takeF_kind o n, ?_, ?_, run_split ho h1 hl⟩
    · refine ⟨o, List.mem_cons_self, takeF_kind o n, ?_, v4, ?_⟩
      · unfold takeF; split; rfl; split <;> rfl
      · intro t ht
        unfold takeF at ht
        split at ht
        · exact ht
        · split at ht
          · exact ht
          · exact List.mem_of_mem_take ht
    · intro x hx
      rcases List.mem_cons.1 hx with rfl | hx
      · refine ⟨b1, o, List.mem_cons_self, ?_, ?_, b2, ?_⟩
        · unfold backF; split <;> rfl
        · unfold backF; split <;> rfl
        · intro t ht
          unfold backF at ht
          split at ht
          · exact ht
          · exact List.mem_of_mem_drop ht
      · exact hr x hx
theorem run_end {d : List Tree} {s : List Tree} (h : Run [] s d) : s = [] ∧ d = [] := by cases h; exact ⟨rfl, rfl⟩
theorem pair_run : ∀ (k : Nat) (p q : List Op) (out : List Piece), p.length + q.length ≤ k → (∀ o ∈ p, opOk o) → (∀ o ∈ q, opOk o) →
    ((pairG 1 2 p q out).2.1 = true → ∃ ps, (pairG 1 2 p q out).1 = out ++ ps ∧ (∀ x ∈ ps, POk p q x) ∧ (∀ s m, Run p s m ↔ Run (sideP ps) s m) ∧ ∀ m d, Run q m d ↔ Run (sideQ ps) m d) ∧
    ((pairG 1 2 p q out).2.1 = false → ∀ s m d, Run p s m → Run q m d → False) := by
  intro k
  induction k with
  | zero =>
    intro p q out hk hp hq
    have e1 : p = [] := List.eq_nil_of_length_eq_zero (by omega)
    have e2 : q = [] := List.eq_nil_of_length_eq_zero (by omega)
    subst e1 e2
    have e : pairG 1 2 [] [] out = (out, true, [], []) := by
      rw [pairG, dif_neg (by simp [sgl]), dif_neg (by simp [sgl]), dif_pos (by simp)]
      rfl
    rw [e]
    exact ⟨fun _ => ⟨[], by simp, fun x hx => (by cases hx), fun s m => Iff.rfl, fun m d => Iff.rfl⟩, fun h => by cases h⟩
  | succ k ih =>
    intro p q out hk hp hq
    rw [pairG]
    by_cases h1 : sgl 1 p = true
    · rw [dif_pos h1]
      obtain ⟨g1, g2⟩ := sgl_iff.1 h1
      cases p with
      | nil => exact absurd rfl g1
      | cons a p' =>
        simp only [List.getD_cons_zero] at g2
        simp only [List.getD_cons_zero, List.drop_succ_cons, List.drop_zero]
        have ha := hp a List.mem_cons_self
        obtain ⟨i1, i2⟩ := ih p' q (out ++ [⟨1, a, Op.nil⟩]) (by simp only [List.length_cons] at hk; omega) (fun o ho => hp o (List.mem_cons_of_mem _ ho)) hq
        refine ⟨fun h => ?_, fun h s m d r1 r2 => ?_⟩
        · obtain ⟨ps, e, hps, hP, hQ⟩ := i1 h
          refine ⟨⟨1, a, Op.nil⟩ :: ps, by rw [e, List.append_assoc]; rfl, fun x hx => ?_, fun s m => ?_, fun m d => ?_⟩
          · rcases List.mem_cons.1 hx with rfl | hx
            · exact ⟨.inr (.inl rfl), fun _ => ⟨Part.self List.mem_cons_self, ha⟩, fun e => absurd rfl e, fun _ => g2, fun e => (by cases e), fun e => (by cases e), fun e => (by cases e), fun _ => rfl⟩
            · exact (hps x hx).mono (fun x hx => Part.self (List.mem_cons_of_mem _ hx)) (fun x hx => Part.self hx)
          · show _ ↔ Run (a :: sideP ps) s m
            exact run_congr hP (opOk_k ha) s m
          · exact hQ m d
        · obtain ⟨b, s', _, _, hr⟩ := (run_gone g2).1 r1
          exact i2 h s' m d hr r2
    · rw [dif_neg h1]
      by_cases h2 : sgl 2 q = true
      · rw [dif_pos h2]
        obtain ⟨g1, g2⟩ := sgl_iff.1 h2
        cases q with
        | nil => exact absurd rfl g1
        | cons a q' =>
          simp only [List.getD_cons_zero] at g2
          simp only [List.getD_cons_zero, List.drop_succ_cons, List.drop_zero]
          have ha := hq a List.mem_cons_self
          obtain ⟨i1, i2⟩ := ih p q' (out ++ [⟨2, Op.nil, a⟩]) (by simp only [List.length_cons] at hk; omega) hp (fun o ho => hq o (List.mem_cons_of_mem _ ho))
          refine ⟨fun h => ?_, fun h s m d r1 r2 => ?_⟩
          · obtain ⟨ps, e, hps, hP, hQ⟩ := i1 h
            refine ⟨⟨2, Op.nil, a⟩ :: ps, by rw [e, List.append_assoc]; rfl, fun x hx => ?_, fun s m => ?_, fun m d => ?_⟩
            · rcases List.mem_cons.1 hx with rfl | hx
              · exact ⟨.inr (.inr rfl), fun e => absurd rfl e, fun _ => ⟨Part.self List.mem_cons_self, ha⟩, fun e => (by cases e), fun _ => g2, fun e => (by cases e), fun _ => rfl, fun e => (by cases e)⟩
              · exact (hps x hx).mono (fun x hx => Part.self hx) (fun x hx => Part.self (List.mem_cons_of_mem _ hx))
            · exact hP s m
            · show _ ↔ Run (a :: sideQ ps) m d
              exact run_congr hQ (opOk_k ha) m d
          · obtain ⟨d', _, hr⟩ := (run_come g2).1 r2
            exact i2 h s m d' r1 hr
      · rw [dif_neg h2]
        by_cases h3 : p.length = 0 ∨ q.length = 0
        · rw [dif_pos h3]
          by_cases h4 : p.length = 0
          · have e1 : p = [] := List.eq_nil_of_length_eq_zero h4
            subst e1
            by_cases h5 : q.length = 0
            · have e2 : q = [] := List.eq_nil_of_length_eq_zero h5
              subst e2
              rw [if_pos rfl]
              exact ⟨fun _ => ⟨[], by simp, fun x hx => (by cases hx), fun s m => Iff.rfl, fun m d => Iff.rfl⟩, fun h => by cases h⟩
            · rw [if_neg (by rw [decide_eq_false h5]; decide)]
              refine ⟨fun h => (by cases h), fun _ s m d r1 r2 => ?_⟩
              cases q with
              | nil => exact h5 rfl
              | cons a q' =>
                have ha := hq a List.mem_cons_self
                obtain ⟨_, rfl⟩ := run_end r1
                obtain ⟨m1, m', d', e, hl, _⟩ := run_in ha (fun e => h2 (sgl_iff.2 ⟨by simp, by simpa using e⟩)) r2
                have := opLen_pos ha
                have e := congrArg List.length e
                simp at e
                omega
          · have h5 : q.length = 0 := by omega
            have e2 : q = [] := List.eq_nil_of_length_eq_zero h5
            subst e2
            rw [if_neg (by rw [decide_eq_false h4]; decide)]
            refine ⟨fun h => (by cases h), fun _ s m d r1 r2 => ?_⟩
            cases p with
            | nil => exact h4 rfl
            | cons a p' =>
              have ha := hp a List.mem_cons_self
              obtain ⟨rfl, _⟩ := run_end r2
              obtain ⟨m1, s', m', e, hl, _⟩ := run_out ha (fun e => h1 (sgl_iff.2 ⟨by simp, by simpa using e⟩)) r1
              have := opLen_pos ha
              have e := congrArg List.length e
              simp at e
              omega
        · rw [dif_neg h3]
          cases p with
          | nil => simp at h3
          | cons a p' =>
            cases q with
            | nil => simp at h3
            | cons b q' =>
              have ha := hp a List.mem_cons_self
              have hb := hq b List.mem_cons_self
              have ka : a.kind ≠ 1 := fun e => h1 (sgl_iff.2 ⟨by simp, by simpa using e⟩)
              have kb : b.kind ≠ 2 := fun e => h2 (sgl_iff.2 ⟨by simp, by simpa using e⟩)
              have la := opLen_pos ha
              have lb := opLen_pos hb
              simp only [List.getD_cons_zero]
              generalize hn : min (opLen a) (opLen b) = n
              have hn1 : 1 ≤ n := by omega
              have hna : n ≤ opLen a := by omega
              have hnb : n ≤ opLen b := by omega
              obtain ⟨a1, a2, a3, a4, a5, a6⟩ := take_row hp hn1 hna
              obtain ⟨b1, b2, b3, b4, b5, b6⟩ := take_row hq hn1 hnb
              have hlt : (takeR (a :: p') n).length + (takeR (b :: q') n).length ≤ k := by
                have x1 := takeR_len_le (a :: p') n (by simp)
                have x2 := takeR_len_le (b :: q') n (by simp)
                simp only [List.length_cons] at hk x1 x2
                rcases Int.le_total (opLen a) (opLen b) with h | h
                · have := takeR_len_lt (a :: p') n (by simp) (by simp only [List.getD_cons_zero]; omega)
                  simp only [List.length_cons] at this
                  omega
                · have := takeR_len_lt (b :: q') n (by simp) (by simp only [List.getD_cons_zero]; omega)
                  simp only [List.length_cons] at this
                  omega
              obtain ⟨i1, i2⟩ := ih (takeR (a :: p') n) (takeR (b :: q') n) (out ++ [⟨0, takeF a n, takeF b n⟩]) hlt (fun o ho => (a5 o ho).1) (fun o ho => (b5 o ho).1)
              refine ⟨fun h => ?_, fun h s m d r1 r2 => ?_⟩
              · obtain ⟨ps, e, hps, hP, hQ⟩ := i1 h
                refine ⟨⟨0, takeF a n, takeF b n⟩ :: ps, by rw [e, List.append_assoc]; rfl, fun x hx => ?_, fun s m => ?_, fun m d => ?_⟩
                · rcases List.mem_cons.1 hx with rfl | hx
                  · exact ⟨.inl rfl, fun _ => ⟨a4, a1⟩, fun _ => ⟨b4, b1⟩, fun e => (by cases e), fun e => (by cases e), fun _ => ⟨by dsimp only; omega, by dsimp only; omega, by dsimp only; omega⟩, fun e => (by cases e), fun e => (by cases e)⟩
                  · exact (hps x hx).mono (fun x hx => (a5 x hx).2) (fun x hx => (b5 x hx).2)
                · rw [a6 s m]
                  exact run_congr hP (opOk_k a1) s m
                · rw [b6 m d]
                  exact run_congr hQ (opOk_k b1) m d
              · rw [a6] at r1
                rw [b6] at r2
                obtain ⟨m1, s', m', e, hl, r3⟩ := run_out a1 (by omega) r1
                obtain ⟨m2, m3, d', e', hl', r4⟩ := run_in b1 (by omega) r2
                obtain ⟨_, e2⟩ := List.append_inj (e.symm.trans e') (by omega)
                subst e2
                exact i2 h s' m' d' r3 r4
end Go.AM.Ytpjenobkibfpcaa
