/- Chapter 7: the bodies. -/
import Derived.Test.YtlahjnelghpmeaaG07
set_option linter.unusedSimpArgs false
set_option linter.unusedVariables false
namespace Go.AM.Ytlahjnelghpmeaa
open Go.AM Go.Proofs


theorem smallK_get : ∀ {ks : List Tree} {i : Nat}, smallK ks → i < ks.length → small (ks.getD i Tree.nil)
  | t :: _, 0, h, _ => by simp only [smallK] at h; exact h.1
  | _ :: r, i + 1, h, hi => by simp only [smallK] at h; exact smallK_get (ks := r) (i := i) h.2 (by simpa using hi)

theorem massK_get : ∀ {ks : List Tree} {i : Nat}, i < ks.length → mass (ks.getD i Tree.nil) ≤ massK ks
  | t :: _, 0, _ => by simp only [massK, List.getD_cons_zero]; omega
  | t :: r, i + 1, h => by
    have := massK_get (ks := r) (i := i) (by simpa using h)
    simp only [massK, List.getD_cons_succ]
    omega

mutual
theorem shallow_range : ∀ (t : Tree) (d l : Int), -1 ≤ shallow t d l ∧ shallow t d l ≤ max l (-1)
  | .mk _ w ks, d, l => by
    simp only [shallow]
    split
    · omega
    · have := shallowK_range ks (d - 1) (l - 1 - w.length) (by omega)
      omega
theorem shallowK_range : ∀ (ks : List Tree) (d l : Int), -1 ≤ l → -1 ≤ shallowK ks d l ∧ shallowK ks d l ≤ l
  | [], d, l, h => by simp only [shallowK]; omega
  | t :: r, d, l, h => by
    simp only [shallowK]
    split
    · omega
    · have h1 := shallow_range t d l
      have h2 := shallowK_range r d (shallow t d l) h1.1
      omega
end

theorem shallowK_drop {ks : List Tree} {i : Nat} {d l : Int} (h : i < ks.length) (hl : 0 ≤ l) : shallowK (ks.drop i) d l = shallowK (ks.drop (i + 1)) d (shallow (ks.getD i Tree.nil) d l) := by
  rw [List.drop_eq_getElem_cons h]
  simp only [shallowK]
  rw [if_neg (by omega)]
  simp [List.getD, h]

theorem c68 : Contract Try.prog cfg 68 spec68 := by
  refine make68 ?_
  rintro N ⟨k, ws, ks⟩ d l _ ⟨hs, h1, h2, h3, h4⟩ hN
  simp only [small, mu68, mass] at *
  refine vc68 N _ _ _ _ ?_
  (simp only [bif_tl, bif_fr, bif_tlf, bif_frf, Bool.not_eq_true', Bool.not_eq_false', decide_eq_true_eq, decide_eq_false_iff_not, beq_iff_eq, beq_eq_false_iff_ne, bne_iff_ne, ne_eq, bne_eq_false_iff_eq, Bool.or_eq_true, Bool.and_eq_true, Bool.or_eq_false_iff, Bool.and_eq_false_imp])
  (simp only [Tree.eta, Edit.eta, Tree.kind_mk, Tree.words_mk, Tree.kids_mk])
  refine ⟨by unfold InR; omega, by unfold InR; omega, by omega, by omega, fun hc => ?_, fun hc => ?_⟩
  · have e : shallow (.mk k ws ks) d l = -1 := by
      simp only [shallow]
      rw [if_pos (by omega)]
    simp only [res68, e]
    exact ⟨⟨rfl, ⟨⟨rfl, rfl⟩, trivial⟩, trivial⟩, trivial⟩
  · have e : shallow (.mk k ws ks) d l = shallowK ks (d - 1) (l - 1 - ws.length) := by
      simp only [shallow]
      rw [if_neg (by omega)]
    simp only [res68, e]
    refine loop_rule (ι := Int × Int) (fun p => head68_0 (.mk k ws ks) d l p.1 p.2) (fun p => 0 ≤ p.2 ∧ p.2 ≤ ks.length ∧ -1 ≤ p.1 ∧ p.1 ≤ l ∧ shallowK (ks.drop p.2.toNat) (d - 1) p.1 = shallowK ks (d - 1) (l - 1 - ws.length)) (fun p => ((ks.length : Int) - p.2).toNat) (l - 1 - ws.length, 0) rfl ⟨by omega, by omega, by omega, by omega, by simp⟩ ?_
    rintro ⟨l', i⟩ ⟨h5, h6, h7, h8, h9⟩
    dsimp only at *
    refine vc68_l0 N _ _ _ _ _ _ _ ?_
    (simp only [bif_tl, bif_fr, bif_tlf, bif_frf, Bool.not_eq_true', Bool.not_eq_false', decide_eq_true_eq, decide_eq_false_iff_not, beq_iff_eq, beq_eq_false_iff_ne, bne_iff_ne, ne_eq, bne_eq_false_iff_eq, Bool.or_eq_true, Bool.and_eq_true, Bool.or_eq_false_iff, Bool.and_eq_false_imp])
    (simp only [Tree.eta, Edit.eta, Tree.kind_mk, Tree.words_mk, Tree.kids_mk])
    refine ⟨by omega, by omega, fun hc => ?_, fun hc => ?_⟩
    · have hi : i.toNat < ks.length := by omega
      have hr := shallow_range (ks.getD i.toNat Tree.nil) (d - 1) l'
      have hn := massK_get hi
      have hd := shallowK_drop (d := d - 1) hi hc.2
      refine ⟨by omega, by unfold InR; omega, ⟨smallK_get hs.2.2 hi, by dsimp only; omega, by dsimp only; omega, by dsimp only; omega, by dsimp only; omega⟩, by simp only [mu68]; omega, by unfold InR; omega, ⟨(shallow (ks.getD i.toNat Tree.nil) (d - 1) l', i + 1), rfl, ⟨by dsimp only; omega, by dsimp only; omega, by dsimp only; omega, by dsimp only; omega, ?_⟩, by dsimp only; omega⟩⟩
      dsimp only
      rw [← h9, hd]
      congr 2
      omega
    · have e : shallowK ks (d - 1) (l - 1 - ws.length) = l' := by
        rw [← h9]
        by_cases hi : i < ks.length
        · rw [List.drop_eq_getElem_cons (by omega)]
          simp only [shallowK]
          rw [if_pos (by omega)]
        · rw [List.drop_eq_nil_of_le (by omega)]
          simp only [shallowK]
      rw [e]
      exact ⟨⟨rfl, ⟨⟨rfl, rfl⟩, trivial⟩, trivial⟩, trivial⟩

theorem drop_eq {a b : List Int} {i : Int} (hi : 0 ≤ i) (ha : i < a.length) (hb : i < b.length) : (a.drop i.toNat = b.drop i.toNat) ↔ (a.getD i.toNat 0 = b.getD i.toNat 0 ∧ a.drop (i + 1).toNat = b.drop (i + 1).toNat) := by
  have e : (i + 1).toNat = i.toNat + 1 := by omega
  rw [List.drop_eq_getElem_cons (by omega), List.drop_eq_getElem_cons (l := b) (by omega), e]
  simp only [List.cons.injEq, List.getD, List.getElem?_eq_getElem (show i.toNat < a.length by omega), List.getElem?_eq_getElem (show i.toNat < b.length by omega), Option.getD_some]

theorem c69 : Contract Try.prog cfg 69 spec69 := by
  refine make69 ?_
  intro a b _ hp
  simp only [pre69] at hp
  refine vc69 _ _ _ ?_
  (simp only [bif_tl, bif_fr, bif_tlf, bif_frf, Bool.not_eq_true', Bool.not_eq_false', decide_eq_true_eq, decide_eq_false_iff_not, beq_iff_eq, beq_eq_false_iff_ne, bne_iff_ne, ne_eq, bne_eq_false_iff_eq, Bool.or_eq_true, Bool.and_eq_true, Bool.or_eq_false_iff, Bool.and_eq_false_imp])
  refine ⟨fun hc => ?_, fun hc => ?_⟩
  · have e : decide (a = b) = false := by
      simp only [decide_eq_false_iff_not]
      rintro rfl
      omega
    simp only [res69, e]
    exact ⟨⟨rfl, ⟨rfl, trivial⟩, trivial⟩, trivial⟩
  · have hl : a.length = b.length := by omega
    refine loop_rule (ι := Int) (fun p => head69_0 a b p) (fun p => 0 ≤ p ∧ p ≤ a.length ∧ (a = b ↔ a.drop p.toNat = b.drop p.toNat)) (fun p => ((a.length : Int) - p).toNat) 0 rfl ⟨by omega, by omega, by simp⟩ ?_
    rintro i ⟨h1, h2, h3⟩
    refine vc69_l0 _ _ _ _ _ ?_
    (simp only [bif_tl, bif_fr, bif_tlf, bif_frf, Bool.not_eq_true', Bool.not_eq_false', decide_eq_true_eq, decide_eq_false_iff_not, beq_iff_eq, beq_eq_false_iff_ne, bne_iff_ne, ne_eq, bne_eq_false_iff_eq, Bool.or_eq_true, Bool.and_eq_true, Bool.or_eq_false_iff, Bool.and_eq_false_imp])
    refine ⟨fun hc => ⟨by omega, by omega, fun hn => ?_, fun he => ⟨by unfold InR; omega, i + 1, rfl, ⟨by omega, by omega, ?_⟩, by omega⟩⟩, fun hc => ?_⟩
    · have e : decide (a = b) = false := by
        simp only [decide_eq_false_iff_not, h3]
        rw [drop_eq h1 hc (by omega)]
        exact fun h => hn h.1
      simp only [res69, e]
      exact ⟨⟨rfl, ⟨rfl, trivial⟩, trivial⟩, trivial⟩
    · rw [h3, drop_eq h1 hc (by omega)]
      exact ⟨fun h => h.2, fun h => ⟨by simpa using he, h⟩⟩
    · have e : decide (a = b) = true := by
        simp only [decide_eq_true_eq, h3]
        rw [List.drop_eq_nil_of_le (by omega), List.drop_eq_nil_of_le (by omega)]
      simp only [res69, e]
      exact ⟨⟨rfl, ⟨rfl, trivial⟩, trivial⟩, trivial⟩

theorem dropT_eq {a b : List Tree} {i : Int} (hi : 0 ≤ i) (ha : i < a.length) (hb : i < b.length) : (a.drop i.toNat = b.drop i.toNat) ↔ (a.getD i.toNat Tree.nil = b.getD i.toNat Tree.nil ∧ a.drop (i + 1).toNat = b.drop (i + 1).toNat) := by
  have e : (i + 1).toNat = i.toNat + 1 := by omega
  rw [List.drop_eq_getElem_cons (by omega), List.drop_eq_getElem_cons (l := b) (by omega), e]
  simp only [List.cons.injEq, List.getD, List.getElem?_eq_getElem (show i.toNat < a.length by omega), List.getElem?_eq_getElem (show i.toNat < b.length by omega), Option.getD_some]

theorem sameT_true {a b : Tree} : sameT a b = true ↔ a = b := by simp [sameT]
theorem sameT_false {a b : Tree} : sameT a b = false ↔ ¬ a = b := by simp [sameT]

theorem massK_len : ∀ (ks : List Tree), ks.length ≤ massK ks
  | [] => by simp [massK]
  | t :: r => by
    have := massK_len r
    have : 1 ≤ mass t := by cases t; simp only [mass]; omega
    simp only [massK, List.length_cons]
    omega

theorem c33 : Contract Try.prog cfg 33 spec33 := by
  refine make33 c69 ?_
  rintro N ⟨k, ws, ks⟩ ⟨k', ws', ks'⟩ _ hp hN
  have hlen := massK_len ks
  simp only [pre33, mu33, mass] at hp hN
  refine vc33 N _ _ _ ?_
  (simp only [bif_tl, bif_fr, bif_tlf, bif_frf, Bool.not_eq_true', Bool.not_eq_false', decide_eq_true_eq, decide_eq_false_iff_not, beq_iff_eq, beq_eq_false_iff_ne, bne_iff_ne, ne_eq, bne_eq_false_iff_eq, Bool.or_eq_true, Bool.and_eq_true, Bool.or_eq_false_iff, Bool.and_eq_false_imp])
  (simp only [Tree.eta, Edit.eta, Tree.kind_mk, Tree.words_mk, Tree.kids_mk])
  have p69 : pre69 (ws, ws', ()) := by simp only [pre69]; omega
  refine ⟨id, id, id, id, fun _ => p69, id, id, id, id, id, id, id, id, by simp, fun hc => ?_, fun hc => ?_⟩
  · have e : sameT (.mk k ws ks) (.mk k' ws' ks') = false := by
      rw [sameT_false]
      intro h
      cases h
      simp at hc
    simp only [res33, e]
    exact ⟨⟨rfl, ⟨rfl, trivial⟩, trivial⟩, trivial⟩
  · have hc' : (k = k' ∧ ws = ws') ∧ ks.length = ks'.length := ⟨hc.1, by have := hc.2; omega⟩
    obtain ⟨⟨rfl, rfl⟩, hl⟩ := hc'
    refine loop_rule (ι := Int) (fun p => head33_0 (.mk k ws ks) (.mk k ws ks') p) (fun p => 0 ≤ p ∧ p ≤ ks.length ∧ (Tree.mk k ws ks = .mk k ws ks' ↔ ks.drop p.toNat = ks'.drop p.toNat)) (fun p => ((ks.length : Int) - p).toNat) 0 rfl ⟨by omega, by omega, by simp⟩ ?_
    rintro i ⟨h1, h2, h3⟩
    refine vc33_l0 N _ _ _ _ _ ?_
    (simp only [bif_tl, bif_fr, bif_tlf, bif_frf, Bool.not_eq_true', Bool.not_eq_false', decide_eq_true_eq, decide_eq_false_iff_not, beq_iff_eq, beq_eq_false_iff_ne, bne_iff_ne, ne_eq, bne_eq_false_iff_eq, Bool.or_eq_true, Bool.and_eq_true, Bool.or_eq_false_iff, Bool.and_eq_false_imp])
    (simp only [Tree.eta, Edit.eta, Tree.kind_mk, Tree.words_mk, Tree.kids_mk])
    refine ⟨fun hc => ⟨by omega, by omega, ?_, ?_, fun hn => ?_, fun he => ⟨by unfold InR; omega, i + 1, rfl, ⟨by omega, by omega, ?_⟩, by omega⟩⟩, fun hc => ?_⟩
    · have := massK_get (ks := ks) (i := i.toNat) (by omega)
      simp only [pre33]
      omega
    · have := massK_get (ks := ks) (i := i.toNat) (by omega)
      simp only [mu33]
      omega
    · have e : sameT (.mk k ws ks) (.mk k ws ks') = false := by
        rw [sameT_false, h3, dropT_eq h1 hc (by omega)]
        rw [sameT_false] at hn
        exact fun h => hn h.1
      simp only [res33, e]
      exact ⟨⟨rfl, ⟨rfl, trivial⟩, trivial⟩, trivial⟩
    · rw [h3, dropT_eq h1 hc (by omega)]
      exact ⟨fun h => h.2, fun h => ⟨sameT_true.1 he, h⟩⟩
    · have e : sameT (.mk k ws ks) (.mk k ws ks') = true := by
        rw [sameT_true, h3]
        rw [List.drop_eq_nil_of_le (by omega), List.drop_eq_nil_of_le (by omega)]
      simp only [res33, e]
      exact ⟨⟨rfl, ⟨rfl, trivial⟩, trivial⟩, trivial⟩

theorem trim_len : ∀ (l : List Int), (trim l).length ≤ l.length
  | [] => by simp [trim]
  | x :: r => by
    have := trim_len r
    simp only [trim]
    split
    · split <;> simp
    · rename_i h
      rw [h] at this
      simp at *
      omega

theorem trimK_mass : ∀ (l : List Tree), massK (trimK l) ≤ massK l
  | [] => by simp [trimK]
  | x :: r => by
    have := trimK_mass r
    simp only [trimK]
    split
    · split
      · simp [massK]
      · simp [massK]
    · rename_i h
      rw [h] at this
      simp only [massK] at *
      omega

mutual
theorem normT_mass : ∀ (t : Tree), mass (normT t) ≤ mass t
  | .mk k w ks => by
    have h1 := normK_mass ks
    have h2 := trim_len w
    have h3 := trimK_mass (normK ks)
    simp only [normT]
    split
    · simp only [Tree.nil, mass, massK, List.length_nil]; omega
    · split
      · simp only [mass]; omega
      · simp only [mass]; omega
theorem normK_mass : ∀ (ks : List Tree), massK (normK ks) ≤ massK ks
  | [] => by simp [normK]
  | t :: r => by
    have h1 := normT_mass t
    have h2 := normK_mass r
    simp only [normK, massK]
    omega
end

mutual
theorem weight_range : ∀ (t : Tree), 0 ≤ weight t ∧ weight t + 1 ≤ 2 * (mass t : Int)
  | .mk k w ks => by
    have h1 := weightK_range ks
    have h2 := massK_len ks
    simp only [weight, mass]
    split
    · omega
    · split
      · omega
      · split <;> omega
theorem weightK_range : ∀ (ks : List Tree), 0 ≤ weightK ks ∧ weightK ks + ks.length ≤ 2 * (massK ks : Int)
  | [] => by simp [weightK, massK]
  | t :: r => by
    have h1 := weight_range t
    have h2 := weightK_range r
    simp only [weightK, massK, List.length_cons]
    omega
end

end Go.AM.Ytlahjnelghpmeaa
