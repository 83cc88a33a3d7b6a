/- Edits: plain lemmas on their sizes and lists. -/
import Derived.Test.YtlahjnelghpmeaaB20
set_option linter.unusedSimpArgs false
set_option linter.unusedVariables false
namespace Go.AM.Ytlahjnelghpmeaa
open Go.AM Go.Proofs

theorem drop_getD {α : Type} {l : List α} {i : Nat} (h : i < l.length) (d : α) : l.drop i = l.getD i d :: l.drop (i + 1) := by
  rw [List.drop_eq_getElem_cons h]
  simp [List.getD, h]

theorem dropI {α : Type} {l : List α} {i : Int} (h0 : 0 ≤ i) (h : i < l.length) (d : α) : l.drop i.toNat = l.getD i.toNat d :: l.drop (i + 1).toNat := by
  rw [drop_getD (by omega) d, show i.toNat + 1 = (i + 1).toNat by omega]

theorem mem_getD {α : Type} {l : List α} {i : Nat} (h : i < l.length) (d : α) : l.getD i d ∈ l := by
  simp only [List.getD, List.getElem?_eq_getElem h, Option.getD_some]
  exact List.getElem_mem h

theorem massE_pos (e : Edit) : 1 ≤ massE e := by cases e; simp only [massE]; omega

theorem massKid_e (k : Kid) : massKid k = massE k.e := by cases k; rfl
theorem massOp_e (o : Op) : massOp o = massK o.l + massE o.e := by cases o; rfl

theorem massK_mem : ∀ {ks : List Tree} {t : Tree}, t ∈ ks → mass t ≤ massK ks
  | x :: r, t, h => by
    simp only [massK]
    rcases List.mem_cons.1 h with rfl | h
    · omega
    · have := massK_mem h; omega

theorem massKs_mem : ∀ {ks : List Kid} {k : Kid}, k ∈ ks → massE k.e ≤ massKs ks
  | x :: r, k, h => by
    simp only [massKs, massKid_e]
    rcases List.mem_cons.1 h with rfl | h
    · omega
    · have := massKs_mem h; omega

theorem massOs_mem : ∀ {os : List Op} {o : Op}, o ∈ os → massOp o ≤ massOs os
  | x :: r, o, h => by
    simp only [massOs]
    rcases List.mem_cons.1 h with rfl | h
    · omega
    · have := massOs_mem h; omega

theorem massKs_len : ∀ (ks : List Kid), ks.length ≤ massKs ks
  | [] => by simp [massKs]
  | k :: r => by
    have := massKs_len r
    have := massE_pos k.e
    simp only [massKs, massKid_e, List.length_cons]
    omega

theorem massOs_len : ∀ (os : List Op), os.length ≤ massOs os
  | [] => by simp [massOs]
  | o :: r => by
    have := massOs_len r
    have := massE_pos o.e
    simp only [massOs, massOp_e, List.length_cons]
    omega

theorem smallK_mem : ∀ {ks : List Tree} {t : Tree}, smallK ks → t ∈ ks → small t
  | x :: r, t, hs, h => by
    simp only [smallK] at hs
    rcases List.mem_cons.1 h with rfl | h
    · exact hs.1
    · exact smallK_mem hs.2 h

theorem smallKs_mem : ∀ {ks : List Kid} {k : Kid}, smallKs ks → k ∈ ks → smallE k.e
  | x :: r, k, hs, h => by
    simp only [smallKs] at hs
    rcases List.mem_cons.1 h with rfl | h
    · have := hs.1; obtain ⟨a, e⟩ := k; exact this
    · exact smallKs_mem hs.2 h

theorem smallOs_mem : ∀ {os : List Op} {o : Op}, smallOs os → o ∈ os → o.l.length ≤ 17592186044416 ∧ smallK o.l ∧ smallE o.e
  | x :: r, o, hs, h => by
    simp only [smallOs] at hs
    rcases List.mem_cons.1 h with rfl | h
    · have := hs.1; obtain ⟨a, b, c, e⟩ := o; exact this
    · exact smallOs_mem hs.2 h

theorem rngK_mem : ∀ {ks : List Tree} {t : Tree}, rngK ks → t ∈ ks → rng t
  | x :: r, t, hs, h => by
    simp only [rngK] at hs
    rcases List.mem_cons.1 h with rfl | h
    · exact hs.1
    · exact rngK_mem hs.2 h

theorem rngKs_mem : ∀ {ks : List Kid} {k : Kid}, rngKs ks → k ∈ ks → isI k.at_ ∧ rngE k.e
  | x :: r, k, hs, h => by
    simp only [rngKs] at hs
    rcases List.mem_cons.1 h with rfl | h
    · have := hs.1; obtain ⟨a, e⟩ := k; exact this
    · exact rngKs_mem hs.2 h

theorem rngOs_mem : ∀ {os : List Op} {o : Op}, rngOs os → o ∈ os → rngOp o
  | x :: r, o, hs, h => by
    simp only [rngOs] at hs
    rcases List.mem_cons.1 h with rfl | h
    · exact hs.1
    · exact rngOs_mem hs.2 h

theorem rngOp_e {o : Op} (h : rngOp o) : isI o.kind ∧ isI o.n ∧ rngK o.l ∧ rngE o.e := by obtain ⟨a, b, c, e⟩ := o; exact h

/-! ## left -/
theorem leftKid_e (k : Kid) (d n : Int) : leftKid k d n = leftE k.e d n := by cases k; rfl
theorem leftOp_e (o : Op) (d n : Int) : leftOp o d n = if shallowK o.l 80 n < 0 then shallowK o.l 80 n else leftE o.e d (shallowK o.l 80 n) := by cases o; rfl

theorem sh1_range (t : Tree) (n : Int) (h : -1 ≤ n) : -1 ≤ sh1 t n ∧ sh1 t n ≤ n := by
  unfold sh1
  split
  · omega
  · have := shallow_range t 80 n; omega

mutual
theorem leftE_range : ∀ (e : Edit) (d n : Int), -1 ≤ leftE e d n ∧ leftE e d n ≤ max n (-1)
  | .mk _ o nw w ks _ os, d, n => by
    simp only [leftE]
    split
    · omega
    · have h1 := shallow_range o 80 (n - 1 - w.length - os.length)
      have h2 := sh1_range nw _ h1.1
      have h3 := leftKs_range ks (d - 1) _ h2.1
      have h4 := leftOs_range os (d - 1) _ h3.1
      omega
theorem leftKs_range : ∀ (ks : List (KidOf Edit)) (d n : Int), -1 ≤ n → -1 ≤ leftKs ks d n ∧ leftKs ks d n ≤ n
  | [], d, n, h => by simp only [leftKs]; omega
  | k :: r, d, n, h => by
    simp only [leftKs]
    split
    · omega
    · have h1 := leftKid_range k d n
      have h2 := leftKs_range r d _ h1.1
      omega
theorem leftKid_range : ∀ (k : KidOf Edit) (d n : Int), -1 ≤ leftKid k d n ∧ leftKid k d n ≤ max n (-1)
  | ⟨_, e⟩, d, n => by
    simp only [leftKid]
    exact leftE_range e d n
theorem leftOs_range : ∀ (os : List (OpOf Edit)) (d n : Int), -1 ≤ n → -1 ≤ leftOs os d n ∧ leftOs os d n ≤ n
  | [], d, n, h => by simp only [leftOs]; omega
  | o :: r, d, n, h => by
    simp only [leftOs]
    split
    · omega
    · have h1 := leftOp_range o d n h
      have h2 := leftOs_range r d _ h1.1
      omega
theorem leftOp_range : ∀ (o : OpOf Edit) (d n : Int), -1 ≤ n → -1 ≤ leftOp o d n ∧ leftOp o d n ≤ n
  | ⟨_, _, l, e⟩, d, n, h => by
    simp only [leftOp]
    have h1 := shallowK_range l 80 n h
    split
    · omega
    · have h2 := leftE_range e d (shallowK l 80 n)
      omega
end

theorem sh1_mass {t : Tree} {n : Int} (h : 0 ≤ sh1 t n) : (mass t : Int) + sh1 t n ≤ n := by
  unfold sh1 at *
  split at h
  · omega
  · rename_i hn
    rw [if_neg hn]
    exact shallow_mass t 80 n h

mutual
theorem leftE_mass : ∀ (e : Edit) (d n : Int), 0 ≤ leftE e d n → (massE e : Int) + leftE e d n ≤ n
  | .mk _ o nw w ks _ os, d, n, h => by
    simp only [leftE] at h ⊢
    split at h
    · omega
    · rename_i hc
      rw [if_neg hc]
      have r1 := shallow_range o 80 (n - 1 - w.length - os.length)
      have r2 := sh1_range nw _ r1.1
      have r3 := leftKs_range ks (d - 1) _ r2.1
      have r4 := leftOs_range os (d - 1) _ r3.1
      have m4 := leftOs_mass os (d - 1) _ h
      have m3 := leftKs_mass ks (d - 1) (sh1 nw (shallow o 80 (n - 1 - w.length - os.length))) (by omega)
      have m2 := sh1_mass (t := nw) (n := shallow o 80 (n - 1 - w.length - os.length)) (by omega)
      have m1 := shallow_mass o 80 (n - 1 - w.length - os.length) (by omega)
      simp only [massE]
      omega
theorem leftKs_mass : ∀ (ks : List (KidOf Edit)) (d n : Int), 0 ≤ leftKs ks d n → (massKs ks : Int) + leftKs ks d n ≤ n
  | [], d, n, h => by simp only [leftKs, massKs]; omega
  | k :: r, d, n, h => by
    simp only [leftKs] at h ⊢
    split at h
    · omega
    · rename_i hc
      rw [if_neg hc]
      have r1 := leftKid_range k d n
      have r2 := leftKs_range r d _ r1.1
      have m2 := leftKs_mass r d _ h
      have m1 := leftKid_mass k d n (by omega)
      simp only [massKs]
      omega
theorem leftKid_mass : ∀ (k : KidOf Edit) (d n : Int), 0 ≤ leftKid k d n → (massKid k : Int) + leftKid k d n ≤ n
  | ⟨_, e⟩, d, n, h => by
    simp only [leftKid, massKid] at h ⊢
    exact leftE_mass e d n h
theorem leftOs_mass : ∀ (os : List (OpOf Edit)) (d n : Int), 0 ≤ leftOs os d n → (massOs os : Int) + leftOs os d n ≤ n
  | [], d, n, h => by simp only [leftOs, massOs]; omega
  | o :: r, d, n, h => by
    simp only [leftOs] at h ⊢
    split at h
    · omega
    · rename_i hc
      rw [if_neg hc]
      have r1 := leftOp_range o d n (by omega)
      have r2 := leftOs_range r d _ r1.1
      have m2 := leftOs_mass r d _ h
      have m1 := leftOp_mass o d n (by omega)
      simp only [massOs]
      omega
theorem leftOp_mass : ∀ (o : OpOf Edit) (d n : Int), 0 ≤ leftOp o d n → (massOp o : Int) + leftOp o d n ≤ n
  | ⟨_, _, l, e⟩, d, n, h => by
    simp only [leftOp, massOp] at h ⊢
    split at h
    · omega
    · rename_i hc
      rw [if_neg hc]
      have m2 := leftE_mass e d _ h
      have r2 := leftE_range e d (shallowK l 80 n)
      have m1 := shallowK_mass l 80 n (by omega)
      omega
end

theorem few_massE {e : Edit} (h : 0 ≤ leftE e 80 3000) : massE e ≤ 3000 := by
  have := leftE_mass e 80 3000 h
  omega

end Go.AM.Ytlahjnelghpmeaa
