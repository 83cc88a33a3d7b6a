/- Chapter 7: tree.Equal. (does not build yet, if NOTES.md says so) -/
import Derived.Test.YtlahjnelghpmeaaE07
set_option linter.unusedSimpArgs false
set_option linter.unusedVariables false
namespace Go.AM.Ytlahjnelghpmeaa
open Go.AM Go.Proofs

theorem words_of_eq {a b : Tree} (h : normT a = normT b) (h0 : a.kind ≠ 0) (i : Nat) : a.words.getD i 0 = b.words.getD i 0 := by
  obtain ⟨_, h2⟩ := (normT_eq_iff a b).1 h
  rcases h2 with h2 | ⟨h2, _⟩
  · exact absurd h2 h0
  · split at h2
    · exact h2 i
    · rw [h2.1]

theorem kids_of_eq {a b : Tree} (h : normT a = normT b) (h0 : a.kind ≠ 0) (i : Nat) : normT (a.kids.getD i Tree.nil) = normT (b.kids.getD i Tree.nil) := by
  obtain ⟨_, h2⟩ := (normT_eq_iff a b).1 h
  rcases h2 with h2 | ⟨_, h2⟩
  · exact absurd h2 h0
  · exact h2 i

theorem kidAt_mass (t : Tree) (i : Int) : mass (kidAt t i) ≤ mass t ∧ (i < t.kids.length → 0 ≤ i → mass (kidAt t i) < mass t) := by
  obtain ⟨k, w, ks⟩ := t
  unfold kidAt
  have h1 : mass Tree.nil = 1 := by simp [Tree.nil, mass, massK]
  split
  · simp only [h1, mass]; omega
  · simp only [Tree.kids_mk]
    by_cases hi : i.toNat < ks.length
    · have := massK_get hi
      simp only [mass]; omega
    · rw [List.getD, List.getElem?_eq_none (by omega)]
      simp only [Option.getD_none, h1, mass]; omega

theorem c34 : Contract Try.prog cfg 34 spec34 := by
  refine make34 c72 c73 c74 ?_
  rintro N a b _ hp hN
  have la : a.words.length + a.kids.length < mass a := by obtain ⟨k, w, ks⟩ := a; have := massK_len ks; simp only [mass, Tree.words_mk, Tree.kids_mk]; omega
  have lb : b.words.length + b.kids.length < mass b := by obtain ⟨k, w, ks⟩ := b; have := massK_len ks; simp only [mass, Tree.words_mk, Tree.kids_mk]; omega
  simp only [pre34, mu34] at hp hN
  have no : ¬ normT a = normT b → EndsQ cfg Try.f34.ntmps Try.f34.results.toList (res34 (a, b, ())) [] .ret (⟨[(4, .c (.bool false))], []⟩ : LSt U) := by
    intro h
    have e : sameT (normT a) (normT b) = false := sameT_false.2 h
    simp only [res34, e]
    exact ⟨⟨rfl, ⟨rfl, trivial⟩, trivial⟩, trivial⟩
  refine vc34 N _ _ _ ?_
  (simp only [bif_tl, bif_fr, bif_tlf, bif_frf, Bool.not_eq_true', Bool.not_eq_false', decide_eq_true_eq, decide_eq_false_iff_not, beq_iff_eq, beq_eq_false_iff_ne, bne_iff_ne, ne_eq, bne_eq_false_iff_eq, Bool.or_eq_true, Bool.and_eq_true, Bool.or_eq_false_iff, Bool.and_eq_false_imp])
  refine ⟨id, id, id, fun hc => ?_, fun hc => ?_⟩
  · have e : sameT (normT a) (normT b) = (a.kind == b.kind) := by
      by_cases hk : a.kind = b.kind
      · have h0 : a.kind = 0 := by rcases hc with h | h; exact absurd hk h; exact h
        rw [sameT_true.2 ((normT_eq_iff a b).2 ⟨hk, .inl h0⟩)]
        simp [hk]
      · rw [sameT_false.2 (fun h => hk ((normT_eq_iff a b).1 h).1)]
        simp [hk]
    simp only [res34, e]
    exact ⟨⟨rfl, ⟨rfl, trivial⟩, trivial⟩, trivial⟩
  · refine ⟨id, id, id, id, id, id, id, id, id, id, id, fun _ => by simp only [pre72]; omega, id, fun h _ => h, fun h h' => ⟨h, h'⟩, id, fun hd => no ?_, fun hd => ?_⟩
    · intro h
      obtain ⟨_, h2⟩ := (normT_eq_iff a b).1 h
      rcases h2 with h2 | ⟨h2, _⟩
      · exact hc.2 h2
      · rw [if_neg hd.1] at h2
        rcases hd.2 with h3 | h3
        · exact h3 (by omega)
        · exact h3 h2.1
    · refine loop_rule (ι := Int) (fun p => head34_0 a b p) (fun p => 0 ≤ p ∧ p ≤ 2000000 ∧ ∀ j : Nat, j < p.toNat → a.words.getD j 0 = b.words.getD j 0) (fun p => (2000000 - p).toNat) 0 rfl ⟨by omega, by omega, fun j hj => by simp at hj⟩ ?_
      rintro i ⟨h1, h2, h3⟩
      refine vc34_l0 N _ _ _ _ _ ?_
      (simp only [bif_tl, bif_fr, bif_tlf, bif_frf, Bool.not_eq_true', Bool.not_eq_false', decide_eq_true_eq, decide_eq_false_iff_not, beq_iff_eq, beq_eq_false_iff_ne, bne_iff_ne, ne_eq, bne_eq_false_iff_eq, Bool.or_eq_true, Bool.and_eq_true, Bool.or_eq_false_iff, Bool.and_eq_false_imp])
      have wa : ∀ t : Tree, wordAt t i = t.words.getD i.toNat 0 := fun t => by unfold wordAt; rw [if_neg (by omega)]
      refine ⟨fun hi => ⟨trivial, trivial, fun hn => no fun h => hn ?_, fun he => ⟨?_, ?_⟩⟩, fun hi => ?_⟩
      · rw [wa, wa]
        exact words_of_eq h hc.2 _
      · unfold InR; split at hi <;> omega
      · refine ⟨i + 1, rfl, ⟨by omega, by split at hi <;> omega, fun j hj => ?_⟩, by split at hi <;> omega⟩
        by_cases hj' : j < i.toNat
        · exact h3 j hj'
        · have : j = i.toNat := by omega
          rw [this, ← wa, ← wa]
          exact he
      · have hw : ∀ j : Nat, a.words.getD j 0 = b.words.getD j 0 := fun j => by
          by_cases hj : j < i.toNat
          · exact h3 j hj
          · split at hi <;> rw [List.getD, List.getD, List.getElem?_eq_none (by omega), List.getElem?_eq_none (by omega)]
        refine loop_rule (ι := Int) (fun p => head34_1 a b p) (fun p => 0 ≤ p ∧ p ≤ 2000000 ∧ ∀ j : Nat, j < p.toNat → normT (a.kids.getD j Tree.nil) = normT (b.kids.getD j Tree.nil)) (fun p => (2000000 - p).toNat) 0 rfl ⟨by omega, by omega, fun j hj => by simp at hj⟩ ?_
        rintro q ⟨h5, h6, h7⟩
        refine vc34_l1 N _ _ _ _ _ ?_
        (simp only [bif_tl, bif_fr, bif_tlf, bif_frf, Bool.not_eq_true', Bool.not_eq_false', decide_eq_true_eq, decide_eq_false_iff_not, beq_iff_eq, beq_eq_false_iff_ne, bne_iff_ne, ne_eq, bne_eq_false_iff_eq, Bool.or_eq_true, Bool.and_eq_true, Bool.or_eq_false_iff, Bool.and_eq_false_imp])
        have ka : ∀ t : Tree, kidAt t q = t.kids.getD q.toNat Tree.nil := fun t => by unfold kidAt; rw [if_neg (by omega)]
        have ma := kidAt_mass a q
        have mb := kidAt_mass b q
        (simp only [Tree.eta, Edit.eta, Tree.kind_mk, Tree.words_mk, Tree.kids_mk])
        refine ⟨fun hq => ⟨trivial, trivial, ?_, ?_, fun hn => no fun h => ?_, fun he => ⟨?_, ?_⟩⟩, fun hq => ?_⟩
        · simp only [pre34]; omega
        · simp only [mu34]; split at hq <;> omega
        · rw [sameT_false] at hn
          apply hn
          rw [ka, ka]
          exact kids_of_eq h hc.2 _
        · unfold InR; split at hq <;> omega
        · refine ⟨q + 1, rfl, ⟨by omega, by split at hq <;> omega, fun j hj => ?_⟩, by split at hq <;> omega⟩
          by_cases hj' : j < q.toNat
          · exact h7 j hj'
          · have : j = q.toNat := by omega
            rw [this, ← ka, ← ka]
            exact sameT_true.1 he
        · have hk : ∀ j : Nat, normT (a.kids.getD j Tree.nil) = normT (b.kids.getD j Tree.nil) := fun j => by
            by_cases hj : j < q.toNat
            · exact h7 j hj
            · split at hq <;> rw [List.getD, List.getD, List.getElem?_eq_none (by omega), List.getElem?_eq_none (by omega)]
          have e : sameT (normT a) (normT b) = true := by
            rw [sameT_true, normT_eq_iff]
            refine ⟨hc.1, .inr ⟨?_, hk⟩⟩
            split
            · exact hw
            · rename_i h1
              rcases hd with hd | hd
              · exact absurd hd h1
              · exact ⟨hd.2, by have := hd.1; omega⟩
          simp only [res34, e]
          exact ⟨⟨rfl, ⟨rfl, trivial⟩, trivial⟩, trivial⟩

end Go.AM.Ytlahjnelghpmeaa
