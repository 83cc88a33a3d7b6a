/- Chapter 7: trees that mean the same. -/
import Derived.Test.YtlahjnelghpmeaaB07
set_option linter.unusedSimpArgs false
set_option linter.unusedVariables false
namespace Go.AM.Ytlahjnelghpmeaa
open Go.AM Go.Proofs

theorem trim_nil_iff : ∀ (l : List Int), trim l = [] ↔ ∀ i : Nat, l.getD i 0 = 0
  | [] => by simp [trim]
  | x :: r => by
    have ih := trim_nil_iff r
    constructor
    · intro h i
      simp only [trim] at h
      split at h
      · rename_i hr
        split at h
        · cases i with
          | zero => simpa
          | succ i => simpa using (ih.1 hr) i
        · cases h
      · cases h
    · intro h
      have h0 := h 0
      have hr : trim r = [] := ih.2 fun i => by simpa using h (i + 1)
      simp only [trim, hr]
      simp at h0
      simp [h0]

theorem trim_cons (x : Int) (r : List Int) : trim (x :: r) = if trim r = [] ∧ x = 0 then [] else x :: trim r := by
  simp only [trim]
  split
  · rename_i h
    simp only [h]
    split <;> simp_all
  · rename_i h
    simp [h]

theorem trim_eq_iff : ∀ (a b : List Int), trim a = trim b ↔ ∀ i : Nat, a.getD i 0 = b.getD i 0
  | [], b => by
    rw [show trim [] = [] from rfl, eq_comm, trim_nil_iff]
    simp [eq_comm]
  | x :: r, [] => by
    rw [show trim [] = [] from rfl, trim_nil_iff]
    simp
  | x :: r, y :: s => by
    have ih := trim_eq_iff r s
    constructor
    · intro h i
      have key : x = y ∧ trim r = trim s := by
        rw [trim_cons, trim_cons] at h
        split at h <;> split at h <;> simp_all
      cases i with
      | zero => simpa using key.1
      | succ i => simpa using ih.1 key.2 i
    · intro h
      have h0 : x = y := by simpa using h 0
      have hr : trim r = trim s := ih.2 fun i => by simpa using h (i + 1)
      rw [trim_cons, trim_cons, h0, hr]

def Nils (l : List Tree) : Prop := ∀ x ∈ l, x.kind = 0 → x = Tree.nil

theorem trimK_cons (x : Tree) (r : List Tree) : trimK (x :: r) = if trimK r = [] ∧ x.kind = 0 then [] else x :: trimK r := by
  simp only [trimK]
  split
  · rename_i h
    simp only [h]
    split <;> simp_all
  · rename_i h
    simp [h]

theorem trimK_nil_iff : ∀ (l : List Tree), Nils l → (trimK l = [] ↔ ∀ i : Nat, l.getD i Tree.nil = Tree.nil)
  | [], _ => by simp [trimK]
  | x :: r, hn => by
    have ih := trimK_nil_iff r (fun y hy => hn y (List.mem_cons_of_mem _ hy))
    have hx := hn x (List.mem_cons_self ..)
    rw [trimK_cons]
    constructor
    · intro h i
      split at h
      · rename_i hc
        cases i with
        | zero => simpa using hx hc.2
        | succ i => simpa using (ih.1 hc.1) i
      · cases h
    · intro h
      have h0 : x = Tree.nil := by simpa using h 0
      have hr : trimK r = [] := ih.2 fun i => by simpa using h (i + 1)
      rw [if_pos ⟨hr, by rw [h0]; rfl⟩]

theorem trimK_eq_iff : ∀ (a b : List Tree), Nils a → Nils b → (trimK a = trimK b ↔ ∀ i : Nat, a.getD i Tree.nil = b.getD i Tree.nil)
  | [], b, _, hb => by
    rw [show trimK [] = [] from rfl, eq_comm, trimK_nil_iff b hb]
    simp [eq_comm]
  | x :: r, [], ha, _ => by
    rw [show trimK [] = [] from rfl, trimK_nil_iff _ ha]
    simp
  | x :: r, y :: s, ha, hb => by
    have ih := trimK_eq_iff r s (fun y hy => ha y (List.mem_cons_of_mem _ hy)) (fun y hy => hb y (List.mem_cons_of_mem _ hy))
    have hx := ha x (List.mem_cons_self ..)
    have hy := hb y (List.mem_cons_self ..)
    constructor
    · intro h i
      have key : x = y ∧ trimK r = trimK s := by
        rw [trimK_cons, trimK_cons] at h
        split at h <;> split at h
        · rename_i h1 h2
          exact ⟨(hx h1.2).trans (hy h2.2).symm, h1.1.trans h2.1.symm⟩
        · cases h
        · cases h
        · simpa using h
      cases i with
      | zero => simpa using key.1
      | succ i => simpa using ih.1 key.2 i
    · intro h
      have h0 : x = y := by simpa using h 0
      have hr : trimK r = trimK s := ih.2 fun i => by simpa using h (i + 1)
      rw [trimK_cons, trimK_cons, h0, hr]

theorem normT_nil : normT Tree.nil = Tree.nil := by simp [Tree.nil, normT]

theorem normT_kind (t : Tree) : (normT t).kind = t.kind := by
  obtain ⟨k, w, ks⟩ := t
  simp only [normT]
  split
  · rename_i h; simp [h, Tree.nil]
  · split
    · rename_i h; simp [h]
    · rfl

theorem normK_nils : ∀ (l : List Tree), Nils (normK l)
  | [] => by intro x hx; simp [normK] at hx
  | t :: r => by
    intro x hx hk
    simp only [normK, List.mem_cons] at hx
    rcases hx with rfl | hx
    · rw [normT_kind] at hk
      obtain ⟨k, w, ks⟩ := t
      simp only [Tree.kind_mk] at hk
      simp [normT, hk]
    · exact normK_nils r x hx hk

theorem normK_getD : ∀ (l : List Tree) (i : Nat), (normK l).getD i Tree.nil = normT (l.getD i Tree.nil)
  | [], i => by simp [normK, normT_nil]
  | t :: r, 0 => by simp [normK]
  | t :: r, i + 1 => by simpa [normK] using normK_getD r i

theorem normK_eq_iff (a b : List Tree) : normK a = normK b ↔ a.length = b.length ∧ ∀ i : Nat, normT (a.getD i Tree.nil) = normT (b.getD i Tree.nil) := by
  constructor
  · intro h
    refine ⟨by rw [← normK_len a, h, normK_len], fun i => ?_⟩
    rw [← normK_getD, h, normK_getD]
  · rintro ⟨hl, h⟩
    apply List.ext_getElem (by rw [normK_len, normK_len, hl])
    intro i h1 h2
    have := h i
    rw [← normK_getD, ← normK_getD] at this
    simpa [List.getD, h1, h2] using this

/-- When do two trees mean the same? -/
theorem normT_eq_iff (a b : Tree) : normT a = normT b ↔ a.kind = b.kind ∧ (a.kind = 0 ∨ (if a.kind = 1 then (∀ i : Nat, a.words.getD i 0 = b.words.getD i 0) else a.words = b.words ∧ a.kids.length = b.kids.length) ∧ ∀ i : Nat, normT (a.kids.getD i Tree.nil) = normT (b.kids.getD i Tree.nil)) := by
  obtain ⟨k, w, ks⟩ := a
  obtain ⟨k', w', ks'⟩ := b
  show _ ↔ k = k' ∧ (k = 0 ∨ (if k = 1 then (∀ i : Nat, w.getD i 0 = w'.getD i 0) else w = w' ∧ ks.length = ks'.length) ∧ ∀ i : Nat, normT (ks.getD i Tree.nil) = normT (ks'.getD i Tree.nil))
  by_cases hk : k = k'
  · subst hk
    simp only [true_and]
    by_cases h0 : k = 0
    · simp [normT, h0]
    · by_cases h1 : k = 1
      · subst h1
        simp only [normT, if_neg h0, if_true, Tree.mk.injEq, true_and, trim_eq_iff, trimK_eq_iff _ _ (normK_nils _) (normK_nils _), normK_getD]
        simp
      · simp only [normT, if_neg h0, if_neg h1, Tree.mk.injEq, true_and, normK_eq_iff]
        constructor
        · rintro ⟨h2, h3, h4⟩; exact .inr ⟨⟨h2, h3⟩, h4⟩
        · rintro (h | ⟨⟨h2, h3⟩, h4⟩)
          · exact absurd h h0
          · exact ⟨h2, h3, h4⟩
  · simp only [hk, false_and, iff_false]
    intro h
    have := congrArg Tree.kind h
    rw [normT_kind, normT_kind] at this
    exact hk this

end Go.AM.Ytlahjnelghpmeaa
