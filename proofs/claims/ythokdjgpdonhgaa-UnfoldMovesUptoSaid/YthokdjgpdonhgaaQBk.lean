import Derived.Test.YthokdjgpdonhgaaRG07
set_option linter.unusedSimpArgs false
set_option linter.unusedVariables false
namespace Go.AM.Ythokdjgpdonhgaa
open Go.AM Go.Proofs


theorem massK_get : ∀ {ks : List Tree} {i : Nat}, i < ks.length → mass (ks.getD i Tree.nil) ≤ massK ks
  | t :: _, 0, _ => by simp only [massK, List.getD_cons_zero]; omega
  | t :: r, i + 1, h => by
    have := massK_get (ks := r) (i := i) (by simpa using h)
    simp only [massK, List.getD_cons_succ]
    omega


theorem dropT_eq {a b : List Tree} {i : Int} (hi : 0 ≤ i) (ha : i < a.length) (hb : i < b.length) : (a.drop i.toNat = b.drop i.toNat) ↔ (a.getD i.toNat Tree.nil = b.getD i.toNat Tree.nil ∧ a.drop (i + 1).toNat = b.drop (i + 1).toNat) := by
  have e : (i + 1).toNat = i.toNat + 1 := by omega
  rw [List.drop_eq_getElem_cons (by omega), List.drop_eq_getElem_cons (l := b) (by omega), e]
  simp only [List.cons.injEq, List.getD, List.getElem?_eq_getElem (show i.toNat < a.length by omega), List.getElem?_eq_getElem (show i.toNat < b.length by omega), Option.getD_some]

theorem sameT_true {a b : Tree} : sameT a b = true ↔ a = b := by simp [sameT]
theorem sameT_false {a b : Tree} : sameT a b = false ↔ ¬ a = b := by simp [sameT]

theorem massK_len : ∀ (ks : List Tree), ks.length ≤ massK ks
  | [] => by simp [massK]
  | t :: r => by
    have := massK_len r
    have : 1 ≤ mass t := by cases t; simp only [mass]; omega
    simp only [massK, List.length_cons]
    omega

theorem c49 : Contract Try.prog cfg 49 spec49 := by
  refine make49 c37 ?_
  rintro N ⟨k, ws, ks⟩ ⟨k', ws', ks'⟩ _ hp hN
  have hlen := massK_len ks
  simp only [pre49, mu49, mass] at hp hN
  refine vc49 N _ _ _ ?_
  (simp only [vcS])
  (simp only [Tree.eta, Tree.kind_mk, Tree.words_mk, Tree.kids_mk])
  have p69 : pre37 (ws, ws', ()) := by simp only [pre37]; omega
  refine ⟨id, id, id, id, fun _ => p69, id, id, id, id, id, id, id, id, by simp, fun hc => ?_, fun hc => ?_⟩
  · have e : sameT (.mk k ws ks) (.mk k' ws' ks') = false := by
      rw [sameT_false]
      intro h
      cases h
      simp at hc
    simp only [res49, e]
    exact ⟨⟨rfl, ⟨rfl, trivial⟩, trivial⟩, trivial⟩
  · have hc' : (k = k' ∧ ws = ws') ∧ ks.length = ks'.length := ⟨hc.1, by have := hc.2; omega⟩
    obtain ⟨⟨rfl, rfl⟩, hl⟩ := hc'
    refine loop_rule (ι := Int) (fun p => head49_0 (.mk k ws ks) (.mk k ws ks') p) (fun p => 0 ≤ p ∧ p ≤ ks.length ∧ (Tree.mk k ws ks = .mk k ws ks' ↔ ks.drop p.toNat = ks'.drop p.toNat)) (fun p => ((ks.length : Int) - p).toNat) 0 rfl ⟨by omega, by omega, by simp⟩ ?_
    rintro i ⟨h1, h2, h3⟩
    refine vc49_l0 N _ _ _ _ _ ?_
    (simp only [vcS])
    (simp only [Tree.eta, Tree.kind_mk, Tree.words_mk, Tree.kids_mk])
    refine ⟨fun hc => ⟨by omega, by omega, ?_, ?_, fun hn => ?_, fun he => ⟨by unfold InR; omega, i + 1, rfl, ⟨by omega, by omega, ?_⟩, by omega⟩⟩, fun hc => ?_⟩
    · have := massK_get (ks := ks) (i := i.toNat) (by omega)
      simp only [pre49]
      omega
    · have := massK_get (ks := ks) (i := i.toNat) (by omega)
      simp only [mu49]
      omega
    · have e : sameT (.mk k ws ks) (.mk k ws ks') = false := by
        rw [sameT_false, h3, dropT_eq h1 hc (by omega)]
        rw [sameT_false] at hn
        exact fun h => hn h.1
      simp only [res49, e]
      exact ⟨⟨rfl, ⟨rfl, trivial⟩, trivial⟩, trivial⟩
    · rw [h3, dropT_eq h1 hc (by omega)]
      exact ⟨fun h => h.2, fun h => ⟨sameT_true.1 he, h⟩⟩
    · have e : sameT (.mk k ws ks) (.mk k ws ks') = true := by
        rw [sameT_true, h3]
        rw [List.drop_eq_nil_of_le (by omega), List.drop_eq_nil_of_le (by omega)]
      simp only [res49, e]
      exact ⟨⟨rfl, ⟨rfl, trivial⟩, trivial⟩, trivial⟩

theorem trim_zero : ∀ (l : List Int), trim (l ++ [0]) = trim l
  | [] => rfl
  | x :: r => by
    show (match trim (r ++ [0]) with | [] => if x = 0 then [] else [x] | y :: s => x :: y :: s) = _
    rw [trim_zero r]
    rfl

theorem trim_ne {x : Int} (hx : x ≠ 0) : ∀ (l : List Int), trim (l ++ [x]) = l ++ [x]
  | [] => by simp [trim, hx]
  | y :: r => by
    show (match trim (r ++ [x]) with | [] => if y = 0 then [] else [y] | z :: s => y :: z :: s) = _
    rw [trim_ne hx r]
    cases r <;> rfl

theorem take_last {l : List Int} {i : Int} (h0 : 0 < i) (hi : i ≤ l.length) : l.take i.toNat = l.take (i - 1).toNat ++ [l.getD (i - 1).toNat 0] := by
  have e : i.toNat = (i - 1).toNat + 1 := by omega
  rw [e, List.take_add_one]
  simp only [List.getD, List.getElem?_eq_getElem (show (i - 1).toNat < l.length by omega), Option.toList, Option.getD_some]

theorem trim_len : ∀ (l : List Int), (trim l).length ≤ l.length
  | [] => by simp [trim]
  | x :: r => by
    have := trim_len r
    simp only [trim]
    split
    · split <;> simp
    · rename_i h
      rw [h] at this
      simp at *
      omega

theorem trimK_mass : ∀ (l : List Tree), massK (trimK l) ≤ massK l
  | [] => by simp [trimK]
  | x :: r => by
    have := trimK_mass r
    simp only [trimK]
    split
    · split
      · simp [massK]
      · simp [massK]
    · rename_i h
      rw [h] at this
      simp only [massK] at *
      omega

mutual
theorem normT_mass : ∀ (t : Tree), mass (normT t) ≤ mass t
  | .mk k w ks => by
    have h1 := normK_mass ks
    have h2 := trim_len w
    have h3 := trimK_mass (normK ks)
    simp only [normT]
    split
    · simp only [Tree.nil, mass, massK, List.length_nil]; omega
    · split
      · simp only [mass]; omega
      · simp only [mass]; omega
theorem normK_mass : ∀ (ks : List Tree), massK (normK ks) ≤ massK ks
  | [] => by simp [normK]
  | t :: r => by
    have h1 := normT_mass t
    have h2 := normK_mass r
    simp only [normK, massK]
    omega
end

theorem normK_app : ∀ (l : List Tree) (x : Tree), normK (l ++ [x]) = normK l ++ [normT x]
  | [], x => rfl
  | y :: r, x => by simp only [List.cons_append, normK, normK_app r x]

theorem normK_len : ∀ (l : List Tree), (normK l).length = l.length
  | [] => rfl
  | y :: r => by simp only [normK, List.length_cons, normK_len r]

theorem trimK_zero {x : Tree} (hx : x.kind = 0) : ∀ (l : List Tree), trimK (l ++ [x]) = trimK l
  | [] => by simp [trimK, hx]
  | y :: r => by
    show (match trimK (r ++ [x]) with | [] => if y.kind = 0 then [] else [y] | z :: s => y :: z :: s) = _
    rw [trimK_zero hx r]
    rfl

theorem trimK_ne {x : Tree} (hx : x.kind ≠ 0) : ∀ (l : List Tree), trimK (l ++ [x]) = l ++ [x]
  | [] => by simp [trimK, hx]
  | y :: r => by
    show (match trimK (r ++ [x]) with | [] => if y.kind = 0 then [] else [y] | z :: s => y :: z :: s) = _
    rw [trimK_ne hx r]
    cases r <;> rfl

theorem takeT_next {l : List Tree} {i : Int} (h0 : 0 ≤ i) (hi : i < l.length) : l.take (i + 1).toNat = l.take i.toNat ++ [l.getD i.toNat Tree.nil] := by
  have e : (i + 1).toNat = i.toNat + 1 := by omega
  rw [e, List.take_add_one]
  simp only [List.getD, List.getElem?_eq_getElem (show i.toNat < l.length by omega), Option.toList, Option.getD_some]

mutual
theorem weight_range : ∀ (t : Tree), 0 ≤ weight t ∧ weight t + 1 ≤ 2 * (mass t : Int)
  | .mk k w ks => by
    have h1 := weightK_range ks
    have h2 := massK_len ks
    simp only [weight, mass]
    split
    · omega
    · split
      · omega
      · split <;> omega
theorem weightK_range : ∀ (ks : List Tree), 0 ≤ weightK ks ∧ weightK ks + ks.length ≤ 2 * (massK ks : Int)
  | [] => by simp [weightK, massK]
  | t :: r => by
    have h1 := weight_range t
    have h2 := weightK_range r
    simp only [weightK, massK, List.length_cons]
    omega
end

theorem last_eq {l : List Int} (h0 : 0 < (l.length : Int)) : l = l.take ((l.length : Int) - 1).toNat ++ [l.getD ((l.length : Int) - 1).toNat 0] := by
  have := take_last h0 (Int.le_refl _)
  rw [List.take_of_length_le (by omega)] at this
  exact this

theorem lastT_eq {l : List Tree} (h0 : 0 < (l.length : Int)) : l = l.take ((l.length : Int) - 1).toNat ++ [l.getD ((l.length : Int) - 1).toNat Tree.nil] := by
  have := takeT_next (l := l) (i := (l.length : Int) - 1) (by omega) (by omega)
  rw [List.take_of_length_le (by omega)] at this
  exact this

theorem trim_step {l : List Int} (h0 : 0 < (l.length : Int)) (hz : l.getD ((l.length : Int) - 1).toNat 0 = 0) : trim (l.take ((l.length : Int) - 1).toNat) = trim l := by
  have e := trim_zero (l.take ((l.length : Int) - 1).toNat)
  have h := last_eq h0
  rw [hz] at h
  rw [← h] at e
  exact e.symm

theorem trim_done {l : List Int} (h : ¬ 0 < (l.length : Int) ∨ ¬ l.getD ((l.length : Int) - 1).toNat 0 = 0) : trim l = l := by
  by_cases h0 : 0 < (l.length : Int)
  · have e := trim_ne (x := l.getD ((l.length : Int) - 1).toNat 0) (by rcases h with h | h; exact absurd h0 h; exact h) (l.take ((l.length : Int) - 1).toNat)
    rw [← last_eq h0] at e
    exact e
  · have : l = [] := List.eq_nil_of_length_eq_zero (by omega)
    subst this
    rfl

theorem trimK_step {l : List Tree} (h0 : 0 < (l.length : Int)) (hz : (l.getD ((l.length : Int) - 1).toNat Tree.nil).kind = 0) : trimK (l.take ((l.length : Int) - 1).toNat) = trimK l := by
  have e := trimK_zero hz (l.take ((l.length : Int) - 1).toNat)
  rw [← lastT_eq h0] at e
  exact e.symm

theorem trimK_done {l : List Tree} (h : ¬ 0 < (l.length : Int) ∨ ¬ (l.getD ((l.length : Int) - 1).toNat Tree.nil).kind = 0) : trimK l = l := by
  by_cases h0 : 0 < (l.length : Int)
  · have e := trimK_ne (x := l.getD ((l.length : Int) - 1).toNat Tree.nil) (by rcases h with h | h; exact absurd h0 h; exact h) (l.take ((l.length : Int) - 1).toNat)
    rw [← lastT_eq h0] at e
    exact e
  · have : l = [] := List.eq_nil_of_length_eq_zero (by omega)
    subst this
    rfl

theorem c72 : Contract Try.prog cfg 72 spec72 := by
  refine make72 c60 ?_
  rintro N ⟨k, ws, ks⟩ _ hp hN
  have hlen := massK_len ks
  simp only [pre72, mu72, mass] at hp hN
  refine vc72 N _ _ ?_
  (simp only [vcS])
  (simp only [Tree.eta, Tree.kind_mk, Tree.words_mk, Tree.kids_mk])
  refine ⟨fun hc => ?_, fun hc0 => ⟨by simp only [pre60]; omega, ?_⟩⟩
  · have e : normT (.mk k ws ks) = Tree.nil := by simp [normT, hc]
    simp only [res72, e]
    exact ⟨⟨rfl, ⟨⟨rfl, rfl⟩, ⟨rfl, ⟨rfl, trivial⟩⟩⟩, trivial⟩, trivial⟩
  · refine loop_rule (ι := Int × List Tree) (fun p => head72_0 (.mk k ws ks) p.1 p.2) (fun p => 0 ≤ p.1 ∧ p.1 ≤ ks.length ∧ p.2 = normK (ks.take p.1.toNat)) (fun p => ((ks.length : Int) - p.1).toNat) (0, []) rfl ⟨by dsimp only; omega, by dsimp only; omega, rfl⟩ ?_
    rintro ⟨i, l⟩ ⟨h1, h2, h5⟩
    dsimp only at *
    have hl : l.length = i.toNat := by rw [h5, normK_len, List.length_take]; omega
    refine vc72_l0 N _ _ _ _ _ ?_
    (simp only [vcS])
    (simp only [Tree.eta, Tree.kind_mk, Tree.words_mk, Tree.kids_mk])
    refine ⟨fun hc => ?_, fun hc => ⟨fun hk => ?_, fun hk => ?_⟩⟩
    · have hm := massK_get (ks := ks) (i := i.toNat) (by omega)
      have hnx : normK (ks.take (i + 1).toNat) = l ++ [normT (ks.getD i.toNat Tree.nil)] := by rw [takeT_next h1 hc, normK_app, h5]
      exact ⟨by omega, by simp only [pre72]; omega, by simp only [mu72]; omega, by simp only [List.length_cons, List.length_nil]; omega, by unfold InR; omega, (i + 1, _), rfl, ⟨by dsimp only; omega, by dsimp only; omega, hnx.symm⟩, by dsimp only; omega⟩
    · have hi : ks.take i.toNat = ks := List.take_of_length_le (by omega)
      rw [hi] at h5
      refine loop_rule (ι := List Int) (fun p => head72_1 (.mk k ws ks) l p) (fun p => p.length ≤ ws.length ∧ trim p = trim ws) (fun p => p.length) ws rfl ⟨by omega, rfl⟩ ?_
      rintro w ⟨h6, h7⟩
      refine vc72_l1 N _ _ _ _ _ ?_
      (simp only [vcS])
      refine ⟨id, id, id, id, fun h => by unfold InR; omega, id, id, fun h => by omega, id, id, id, fun hc => ⟨by unfold InR; omega, by omega, _, rfl, ⟨by rw [List.length_take]; omega, ?_⟩, by rw [List.length_take]; omega⟩, fun hc => ?_⟩
      · rw [trim_step hc.1 hc.2, h7]
      · have hw : w = trim ws := by rw [← h7, trim_done hc]
        refine loop_rule (ι := List Tree) (fun p => head72_2 (.mk k ws ks) w p) (fun p => p.length ≤ l.length ∧ trimK p = trimK l) (fun p => p.length) l rfl ⟨by omega, rfl⟩ ?_
        rintro q ⟨h8, h9⟩
        refine vc72_l2 N _ _ _ _ _ ?_
        (simp only [vcS])
        refine ⟨id, id, id, id, fun h => by unfold InR; omega, id, id, fun h => by omega, id, id, id, id, fun hc => ⟨by unfold InR; omega, by omega, _, rfl, ⟨by rw [List.length_take]; omega, ?_⟩, by rw [List.length_take]; omega⟩, fun hc => ?_⟩
        · rw [trimK_step hc.1 hc.2, h9]
        · have hq : q = trimK (normK ks) := by rw [← h5, ← h9, trimK_done hc]
          have e : normT (.mk k ws ks) = .mk k w q := by
            subst hk
            simp only [normT, hw, hq]
            rfl
          simp only [res72, e]
          exact ⟨⟨rfl, ⟨⟨rfl, rfl⟩, ⟨rfl, trivial⟩, ⟨rfl, trivial⟩, trivial⟩, trivial⟩, trivial⟩
    · have hi : ks.take i.toNat = ks := List.take_of_length_le (by omega)
      rw [hi] at h5
      have e : normT (.mk k ws ks) = .mk k ws l := by simp only [normT, if_neg hc0, if_neg hk, h5]
      simp only [res72, e]
      exact ⟨⟨rfl, ⟨⟨rfl, rfl⟩, ⟨rfl, trivial⟩, ⟨rfl, trivial⟩, trivial⟩, trivial⟩, trivial⟩

end Go.AM.Ythokdjgpdonhgaa

namespace Go.AM.Ythokdjgpdonhgaa
open Go.AM

mutual
def depthT : Tree → Int
  | .mk k _ ks => if k = 0 ∨ k = 10 then 0 else depthK ks 1
def depthK : List Tree → Int → Int
  | [], n => n
  | t :: r, n => depthK r (if n < depthT t + 1 then depthT t + 1 else n)
end

mutual
theorem depthT_le : ∀ (t : Tree) (d : Int), 0 ≤ d → rightT t d = true → 0 ≤ depthT t ∧ depthT t ≤ d
  | .mk k w ks, d, h0, h => by
    rw [depthT]
    split
    · omega
    · rename_i hk
      rw [rightT, if_neg (fun e => hk (.inl e)), if_neg (fun e => hk (.inr e))] at h
      split at h
      · cases h
      · rename_i hd
        have hr : ∃ i, rightK i ks (d - 1) = true := by
          split at h
          · exact ⟨1, (Bool.and_eq_true _ _ ▸ h).2⟩
          · exact ⟨k, (Bool.and_eq_true _ _ ▸ h).2⟩
        obtain ⟨i, hr⟩ := hr
        have := depthK_le i ks d 1 (by omega) (by omega) (by omega) hr
        omega
theorem depthK_le (i : Int) : ∀ (ks : List Tree) (d n : Int), 1 ≤ d → 0 ≤ n → n ≤ d → rightK i ks (d - 1) = true → n ≤ depthK ks n ∧ depthK ks n ≤ d
  | [], d, n, h0, h1, h2, h => by rw [depthK]; omega
  | t :: r, d, n, h0, h1, h2, h => by
    rw [rightK] at h
    have h' := (Bool.and_eq_true _ _ ▸ h)
    have h3 := (Bool.and_eq_true _ _ ▸ h'.1)
    have h4 := depthT_le t (d - 1) (by omega) h3.2
    rw [depthK]
    have := depthK_le i r d (if n < depthT t + 1 then depthT t + 1 else n) h0 (by split <;> omega) (by split <;> omega) h'.2
    split at this <;> split <;> omega
end

mutual
theorem rightT_mono : ∀ (t : Tree) (d e : Int), 0 ≤ d → d ≤ e → rightT t d = true → rightT t e = true
  | .mk k w ks, d, e, h0, h1, h => by
    rw [rightT] at h ⊢
    split
    · rename_i h2; rw [if_pos h2] at h; exact h
    · rename_i h2; rw [if_neg h2] at h
      split
      · rename_i h3; rw [if_pos h3] at h; exact h
      · rename_i h3; rw [if_neg h3] at h
        by_cases hd : d = 0
        · rw [if_pos hd] at h; cases h
        · rw [if_neg hd] at h; rw [if_neg (show ¬ e = 0 by omega)]
          split
          · rename_i h4; rw [if_pos h4] at h
            have h' := (Bool.and_eq_true _ _ ▸ h)
            exact (Bool.and_eq_true _ _).symm ▸ ⟨h'.1, rightK_mono 1 ks (d - 1) (e - 1) (by omega) (by omega) h'.2⟩
          · rename_i h4; rw [if_neg h4] at h
            have h' := (Bool.and_eq_true _ _ ▸ h)
            exact (Bool.and_eq_true _ _).symm ▸ ⟨h'.1, rightK_mono k ks (d - 1) (e - 1) (by omega) (by omega) h'.2⟩
theorem rightK_mono (i : Int) : ∀ (ks : List Tree) (d e : Int), 0 ≤ d → d ≤ e → rightK i ks d = true → rightK i ks e = true
  | [], _, _, _, _, _ => by rw [rightK]
  | t :: r, d, e, h0, h1, h => by
    rw [rightK] at h ⊢
    have h' := (Bool.and_eq_true _ _ ▸ h)
    have h3 := (Bool.and_eq_true _ _ ▸ h'.1)
    exact (Bool.and_eq_true _ _).symm ▸ ⟨(Bool.and_eq_true _ _).symm ▸ ⟨h3.1, rightT_mono t d e h0 h1 h3.2⟩, rightK_mono i r d e h0 h1 h'.2⟩
end

mutual
theorem mass_weight : ∀ (t : Tree) (d : Int), rightT t d = true → (mass t : Int) ≤ 2 * weight t + (if t.kind = 0 then 1 else 0)
  | .mk k w ks, d, h => by
    rw [rightT] at h
    show (mass (.mk k w ks) : Int) ≤ _ + (if k = 0 then 1 else 0)
    rw [mass, weight]
    split at h
    · rename_i hk
      have := of_decide_eq_true h
      rw [if_pos hk, if_pos hk, this.1, List.length_eq_zero_iff.1 this.2, massK]
      omega
    · rename_i hk
      rw [if_neg hk, if_neg hk]
      split at h
      · rename_i hk
        have := of_decide_eq_true h
        rw [if_neg (by omega), if_neg (by omega), this.1, List.length_eq_zero_iff.1 this.2, massK, weightK]
        omega
      · split at h
        · cases h
        · split at h
          · rename_i h1
            have h' := (Bool.and_eq_true _ _ ▸ h)
            have := massK_weight 1 ks (d - 1) h'.2
            rw [if_pos h1]
            rw [if_neg (by omega)] at this
            omega
          · rename_i h1
            have h' := (Bool.and_eq_true _ _ ▸ h)
            have := massK_weight k ks (d - 1) h'.2
            have hw := of_decide_eq_true h'.1
            rw [if_neg h1]
            split
            · rename_i h8
              rw [if_neg (by omega)] at this
              omega
            · rename_i h8
              rw [if_pos (by omega)] at this
              omega
theorem massK_weight (i : Int) : ∀ (ks : List Tree) (d : Int), rightK i ks d = true → (massK ks : Int) ≤ 2 * weightK ks + (if 2 ≤ i ∧ i ≤ 7 ∨ i = 9 then 0 else (ks.length : Int))
  | [], _, _ => by rw [massK, weightK]; split <;> simp
  | t :: r, d, h => by
    rw [rightK] at h
    have h' := (Bool.and_eq_true _ _ ▸ h)
    have h3 := (Bool.and_eq_true _ _ ▸ h'.1)
    have h4 := mass_weight t d h3.2
    have h5 := massK_weight i r d h'.2
    rw [massK, weightK, List.length_cons]
    split
    · rename_i hi
      rw [if_pos hi] at h5
      have hk : t.kind ≠ 0 := by
        intro e
        have := h3.1
        unfold kidB at this
        split at this
        · have := (of_decide_eq_true (Bool.and_eq_true _ _ ▸ this).1); omega
        · rw [if_pos (by omega)] at this
          have := of_decide_eq_true this; omega
      rw [if_neg hk] at h4
      omega
    · rename_i hi
      rw [if_neg hi] at h5
      split at h4 <;> omega
end

theorem wordsX_rng {l : List (List Int)} (hl : okSeg l) {x : XRef} (hx : OkX l x) : (∀ y ∈ wordsX l x, 0 ≤ y ∧ y < 18446744073709551616) ∧ ((wordsX l x).length : Int) = (if x.kind = 10 then 1 else if x.kind = 1 then x.data else 0) := by
  unfold wordsX
  split
  · refine ⟨fun y hy => ?_, rfl⟩
    rw [List.mem_singleton.1 hy]; exact hx.n
  · split
    · rename_i h1
      refine ⟨fun y hy => (okSeg_at hl x.s).2 y (List.mem_of_mem_drop (List.mem_of_mem_take hy)), ?_⟩
      have := hasN_iff.1 (hx.one h1)
      have := hx.data
      have := hx.ptrs
      have := hx.at_
      rw [List.length_take, List.length_drop]
      omega
    · exact ⟨fun y hy => (by cases hy), rfl⟩

theorem getW_fits {l : List Int} (h : ∀ x ∈ l, 0 ≤ x ∧ x < 18446744073709551616) (c i : Int) (hc : 0 ≤ c ∧ c ≤ 5) : fits c (getW l c i) = true := by
  have hw : 0 ≤ wd c := by
    unfold wd; repeat' split
    all_goals omega
  refine decide_eq_true ⟨hw, ?_⟩
  unfold getW
  split
  · exact Int.pow_pos (by decide)
  · exact Int.emod_lt_of_pos _ (Int.pow_pos (by decide))

theorem loopM_all {f : Int → Int → Tree × Int × Int} {P : Tree → Prop} {N c : Int}
    (hf : ∀ i left, 0 ≤ i → i < N → 0 ≤ left → left ≤ 65536 → (f i left).2.2 = 0 → P (f i left).1 ∧ 0 ≤ (f i left).2.1 ∧ (f i left).2.1 ≤ left ∧ weight (f i left).1 = left - (f i left).2.1 + c) :
    ∀ (n : Nat) (i left : Int) (acc : List Tree), 0 ≤ i → i + n ≤ N → 0 ≤ left → left ≤ 65536 → (loopM f n i left acc).2.2 = 0 →
      ∃ ks, (loopM f n i left acc).1 = acc ++ ks ∧ ks.length = n ∧ (∀ k ∈ ks, P k) ∧ 0 ≤ (loopM f n i left acc).2.1 ∧ (loopM f n i left acc).2.1 ≤ left ∧ weightK ks = left - (loopM f n i left acc).2.1 + n * c
  | 0, i, left, acc, _, _, h0, _, _ => ⟨[], by simp [loopM, weightK]; exact h0⟩
  | n + 1, i, left, acc, hi, hn, h0, h9, he => by
    simp only [loopM] at he ⊢
    by_cases h1 : (f i left).2.2 = 0
    · rw [if_pos h1] at he ⊢
      obtain ⟨p1, p2, p4, p3⟩ := hf i left hi (by omega) h0 h9 h1
      obtain ⟨ks, q1, q2, q3, q4, q6, q5⟩ := loopM_all hf n (i + 1) (f i left).2.1 (acc ++ [(f i left).1]) (by omega) (by omega) p2 (by omega) he
      refine ⟨(f i left).1 :: ks, by rw [q1]; simp, by simp [q2], ?_, q4, by omega, ?_⟩
      · intro k hk
        rcases List.mem_cons.1 hk with rfl | hk
        · exact p1
        · exact q3 k hk
      · rw [weightK, q5, p3]
        rw [Int.natCast_add, Int.add_mul]
        omega
    · rw [if_neg h1] at he
      exact absurd he h1

theorem rightK_of {i : Int} {d : Int} : ∀ {ks : List Tree}, (∀ k ∈ ks, kidB i k = true ∧ rightT k d = true) → rightK i ks d = true
  | [], _ => by rw [rightK]
  | t :: r, h => by
    rw [rightK, (h t (List.mem_cons_self ..)).1, (h t (List.mem_cons_self ..)).2, rightK_of (ks := r) fun k hk => h k (List.mem_cons_of_mem _ hk)]
    rfl

theorem rngK_of : ∀ {ks : List Tree}, (∀ k ∈ ks, rng k) → rngK ks
  | [], _ => trivial
  | t :: r, h => ⟨h t (List.mem_cons_self ..), rngK_of (ks := r) fun k hk => h k (List.mem_cons_of_mem _ hk)⟩

def GoodM (l : List (List Int)) (m : XRef → Int → Tree × Int × Int) (d : Int) : Prop :=
  ∀ x left, OkX l x → 0 ≤ left → left ≤ 65536 → (m x left).2.2 = 0 →
    (m x left).1.kind = x.kind ∧ rightT (m x left).1 d = true ∧ rng (m x left).1 ∧ 0 ≤ (m x left).2.1 ∧ weight (m x left).1 = left - (m x left).2.1

theorem kidX_kind {l : List (List Int)} (hl : okSeg l) (s a : Int) : (refAt l s a).1.kind ≠ 10 := by
  have hp := (okL_follow hl s a).p
  have hk := (okL_follow hl s a).kind
  have hc := hp.code
  unfold refAt
  split
  · simp [xz]
  · split
    · simp
    · split
      · show 2 + _ ≠ _; omega
      · unfold compX
        split <;> simp [xz]

theorem kidB_at {l : List (List Int)} (hl : okSeg l) {x : XRef} {i k : Int} (hk : x.kind = 1 ∨ x.kind = 8) (h1 : ¬(2 ≤ k ∧ k ≤ 7)) (h9 : k ≠ 9) {t : Tree} (ht : t.kind = (kidX l x i).1.kind) : kidB k t = true := by
  unfold kidB
  rw [if_neg h1, if_neg h9]
  refine decide_eq_true ?_
  rw [ht]
  unfold kidX
  split
  · simp [xz]
  · rcases hk with e | e
    · rw [if_pos e]; exact kidX_kind hl _ _
    · rw [if_neg (by omega), if_pos e]; exact kidX_kind hl _ _

theorem kidsM_good {l : List (List Int)} (hl : okSeg l) {m : XRef → Int → Tree × Int × Int} {d : Int} (hd : 0 ≤ d) (hm : GoodM l m d) {x : XRef} (hx : OkX l x) (h1 : x.kind = 1) (left : Int) (h0 : 0 ≤ left) (h9 : left ≤ 65536) (he : (kidsM l m x left).2.2 = 0) :
    (kidsM l m x left).1.kind = 1 ∧ rightT (kidsM l m x left).1 (d + 1) = true ∧ rng (kidsM l m x left).1 ∧ 0 ≤ (kidsM l m x left).2.1 ∧ (kidsM l m x left).2.1 ≤ left ∧ weight (kidsM l m x left).1 = left - (kidsM l m x left).2.1 + (1 + x.data + x.ptrs) := by
  have hw := wordsX_rng hl hx
  rw [if_neg (by omega), if_pos h1] at hw
  have hdt := hx.data
  have hpt := hx.ptrs
  unfold kidsM at he ⊢
  obtain ⟨ks, q1, q2, q3, q4, q6, q5⟩ := loopM_all (P := fun k => (kidB 1 k = true ∧ rightT k d = true) ∧ rng k) (N := x.ptrs) (c := 0) (f := fun j left => if (kidX l x j).2 = 0 then m (kidX l x j).1 left else (Tree.nil, left, (kidX l x j).2)) (by
    intro i left hi hn h0 h9 he
    by_cases h2 : (kidX l x i).2 = 0
    · simp only [h2, if_true] at he ⊢
      obtain ⟨g1, g2, g3, g4, g5⟩ := hm _ _ (okX_kid hl hx i) h0 h9 he
      have := (weight_range (m (kidX l x i).1 left).1).1
      exact ⟨⟨⟨kidB_at hl (.inl h1) (by omega) (by omega) g1, g2⟩, g3⟩, g4, by omega, by rw [g5, Int.add_zero]⟩
    · simp only [h2, if_false] at he) x.ptrs.toNat 0 left [] (by omega) (by omega) h0 h9 he
  dsimp only at q1 q4 q5 q6 ⊢
  rw [q1, List.nil_append]
  refine ⟨rfl, ?_, ?_, q4, q6, ?_⟩
  · rw [rightT, if_neg (by omega), if_neg (by omega), if_neg (by omega), if_pos rfl, show d + 1 - 1 = d by omega, rightK_of fun k hk => (q3 k hk).1]
    refine (Bool.and_eq_true _ _).symm ▸ ⟨decide_eq_true ⟨by omega, by omega⟩, rfl⟩
  · exact ⟨⟨by omega, by omega⟩, hw.1, rngK_of fun k hk => (q3 k hk).2⟩
  · rw [weight, if_neg (by omega), if_pos rfl, q5]
    omega

theorem stepM_good {l : List (List Int)} (hl : okSeg l) {d : Nat} {m m' : XRef → Int → Tree × Int × Int} (hm : 1 ≤ d → GoodM l m ((d : Int) - 1)) (hm' : 2 ≤ d → GoodM l m' ((d : Int) - 2)) : GoodM l (stepM l d m m') d := by
  intro x left hx h0 h9 he
  have hw := wordsX_rng hl hx
  have hdt := hx.data
  have hpt := hx.ptrs
  have hk := hx.kind
  have hc := hx.count
  unfold stepM at he ⊢
  by_cases hk0 : x.kind = 0
  · rw [if_neg (by omega), if_neg (by omega)] at hw
    have e : wordsX l x = [] := List.length_eq_zero_iff.1 (by omega)
    rw [if_pos hk0, e]
    refine ⟨hk0.symm, ?_, ?_, h0, ?_⟩
    · rw [rightT, if_pos rfl]; rfl
    · exact ⟨⟨by omega, by omega⟩, fun y hy => (by cases hy), trivial⟩
    · show weight ⟨0, [], []⟩ = left - left
      rw [weight, if_pos rfl]; omega
  · rw [if_neg hk0] at he ⊢
    by_cases hq : d = 0 ∨ (x.kind = 9 ∧ 0 < x.count ∧ d < 2) ∨ left < ownX x
    · rw [if_pos hq] at he; cases he
    · rw [if_neg hq] at he ⊢
      have hown := ownX_pos hx
      have hkx := kidsX_le hx
      -- the kids
      have key : ∃ c : Int, ownX x = 1 + (if x.kind = 1 then x.data + kidsX x else if x.kind = 8 then kidsX x else 0) + kidsX x * c ∧
          ∀ i left, 0 ≤ i → i < kidsX x → 0 ≤ left → left ≤ 65536 → (kidM l m m' x i left).2.2 = 0 →
            ((kidB x.kind (kidM l m m' x i left).1 = true ∧ rightT (kidM l m m' x i left).1 ((d : Int) - 1) = true) ∧ rng (kidM l m m' x i left).1) ∧ 0 ≤ (kidM l m m' x i left).2.1 ∧ (kidM l m m' x i left).2.1 ≤ left ∧
            weight (kidM l m m' x i left).1 = left - (kidM l m m' x i left).2.1 + c := by
        by_cases h18 : x.kind = 1 ∨ x.kind = 8
        · refine ⟨0, ?_, ?_⟩
          · unfold ownX kidsX
            rcases h18 with e | e
            · rw [if_pos e, if_pos e, if_pos e]; omega
            · rw [if_neg (by omega), if_neg (by omega), if_neg (by omega), if_pos e, if_neg (by omega)]; omega
          · intro i left hi hn h0 h9 he
            unfold kidM at he ⊢
            by_cases h2 : (kidX l x i).2 = 0
            · rw [if_pos h2, if_neg (by omega), if_pos h18] at he ⊢
              obtain ⟨g1, g2, g3, g4, g5⟩ := hm (by omega) _ _ (okX_kid hl hx i) h0 h9 he
              have := (weight_range (m (kidX l x i).1 left).1).1
              exact ⟨⟨⟨kidB_at hl h18 (by omega) (by omega) g1, g2⟩, g3⟩, g4, by omega, by rw [g5, Int.add_zero]⟩
            · rw [if_neg h2] at he; exact absurd he h2
        · by_cases h99 : x.kind = 9
          · refine ⟨1 + x.data + x.ptrs, ?_, ?_⟩
            · unfold ownX kidsX
              rw [if_neg (by omega), if_pos h99, if_neg (by omega), if_neg (by omega), if_neg (by omega)]; omega
            · intro i left hi hn h0 h9 he
              have e : kidsX x = x.count := by unfold kidsX; rw [if_neg (by omega)]
              have ek : kidX l x i = (⟨1, x.s, x.at_ + i * (x.data + x.ptrs), x.data, x.ptrs, 0, 0⟩, 0) := by
                unfold kidX; rw [if_neg (by omega), if_neg (by omega), if_neg (by omega), if_pos h99]
              have hkk := okX_kid hl hx i
              unfold kidM at he ⊢
              rw [ek] at he hkk ⊢
              rw [if_pos rfl, if_pos h99] at he ⊢
              obtain ⟨g1, g2, g3, g4, g6, g5⟩ := kidsM_good hl (d := (d : Int) - 2) (by omega) (hm' (by omega)) hkk rfl left h0 h9 he
              refine ⟨⟨⟨?_, by rw [show (d : Int) - 1 = d - 2 + 1 by omega]; exact g2⟩, g3⟩, g4, g6, g5⟩
              unfold kidB
              rw [if_neg (by omega), if_pos h99]
              exact decide_eq_true g1
          · refine ⟨1, ?_, ?_⟩
            · unfold ownX kidsX
              rw [if_neg (by omega), if_neg h99, if_neg (by omega), if_neg (by omega), if_neg (by omega)]; omega
            · intro i left hi hn h0 h9 he
              have e : kidsX x = x.count := by unfold kidsX; rw [if_neg (by omega)]
              have hz := hx.zero
              have ek : kidX l x i = (⟨10, 0, 0, 0, 0, 0, getW ((segAt l x.s).drop x.at_.toNat) (x.kind - 2) i⟩, 0) := by
                unfold kidX; rw [if_neg (by omega), if_neg (by omega), if_neg (by omega), if_neg (by omega)]
              have hkk := okX_kid hl hx i
              rw [ek] at hkk
              have em : kidM l m m' x i left = (⟨10, [getW ((segAt l x.s).drop x.at_.toNat) (x.kind - 2) i], []⟩, left, 0) := by
                unfold kidM
                rw [ek, if_pos rfl, if_neg h99, if_neg h18]
                rfl
              rw [em]
              refine ⟨⟨⟨?_, ?_⟩, ⟨by omega, by omega⟩, ?_, trivial⟩, h0, Int.le_refl _, ?_⟩
              · unfold kidB
                rw [if_pos (by omega)]
                refine (Bool.and_eq_true _ _).symm ▸ ⟨decide_eq_true ⟨rfl, rfl, rfl⟩, ?_⟩
                exact getW_fits (fun y hy => (okSeg_at hl x.s).2 y (List.mem_of_mem_drop hy)) _ _ (by omega)
              · rw [rightT, if_neg (by omega), if_pos rfl]; rfl
              · exact (wordsX_rng hl hkk).1
              · show weight ⟨10, _, []⟩ = left - left + 1
                rw [weight, if_neg (by omega), if_neg (by omega), if_neg (by omega), weightK]; omega
      obtain ⟨c, hc1, hc2⟩ := key
      obtain ⟨ks, q1, q2, q3, q4, q6, q5⟩ := loopM_all (P := fun k => (kidB x.kind k = true ∧ rightT k ((d : Int) - 1) = true) ∧ rng k) (N := kidsX x) hc2 (kidsX x).toNat 0 (left - ownX x) [] (by omega) (by omega) (by omega) (by omega) he
      dsimp only
      rw [q1, List.nil_append]
      rw [Int.toNat_of_nonneg hkx.1] at q5
      have q2' : (ks.length : Int) = kidsX x := by rw [q2, Int.toNat_of_nonneg hkx.1]
      refine ⟨rfl, ?_, ⟨⟨by omega, by omega⟩, hw.1, rngK_of fun k hk => (q3 k hk).2⟩, q4, ?_⟩
      · rw [rightT, if_neg hk0]
        split
        · rename_i h10
          rw [if_pos h10] at hw
          have := hx.zero (.inr h10)
          have e : kidsX x = 0 := by unfold kidsX; rw [if_neg (by omega)]; exact this
          exact decide_eq_true ⟨by omega, by omega⟩
        · rename_i h10
          rw [if_neg h10] at hw
          rw [if_neg (by omega)]
          have hr := rightK_of fun k hk => (q3 k hk).1
          split
          · rename_i h1
            rw [if_pos h1] at hw
            rw [h1] at hr
            rw [hr]
            have e : kidsX x = x.ptrs := by unfold kidsX; rw [if_pos h1]
            exact (Bool.and_eq_true _ _).symm ▸ ⟨decide_eq_true ⟨by omega, by omega⟩, rfl⟩
          · rename_i h1
            rw [if_neg h1] at hw
            rw [hr]
            exact (Bool.and_eq_true _ _).symm ▸ ⟨decide_eq_true ⟨by omega, by omega, by omega, by omega⟩, rfl⟩
      · rw [weight, if_neg hk0, q5, q2', hc1]
        split
        · rename_i h1
          rw [if_neg (by omega), if_pos h1] at hw
          omega
        · omega

theorem mean_good {l : List (List Int)} (hl : okSeg l) : ∀ d : Nat, GoodM l (mean l d) d := by
  intro d
  induction d using Nat.strongRecOn with
  | ind d ih =>
    match d with
    | 0 => exact stepM_good hl (fun h => absurd h (by decide)) (fun h => absurd h (by decide))
    | 1 => exact stepM_good hl (fun _ => ih 0 (by omega)) (fun h => absurd h (by decide))
    | d + 2 =>
      refine stepM_good hl (fun _ => ?_) (fun _ => ?_)
      · have := ih (d + 1) (by omega)
        rw [show ((d + 2 : Nat) : Int) - 1 = ((d + 1 : Nat) : Int) by omega]
        exact this
      · have := ih d (by omega)
        rw [show ((d + 2 : Nat) : Int) - 2 = ((d : Nat) : Int) by omega]
        exact this

end Go.AM.Ythokdjgpdonhgaa

namespace Go.AM.Ythokdjgpdonhgaa
open Go.AM Go.Proofs


theorem clamp_le (n t : Int) (h : 0 ≤ t) : 0 ≤ clampI n t ∧ clampI n t ≤ t := by unfold clampI; split <;> (try split) <;> omega

theorem unfV_good {l : List (List Int)} (hl : okSeg l) (x : Limits) (h : (unfV l x).2.2 = 0) :
    rightT (unfV l x).1 64 = true ∧ rng (unfV l x).1 ∧ depthT (unfV l x).1 ≤ (limV x).depth ∧ weight (unfV l x).1 = (unfV l x).2.1 ∧ (unfV l x).2.1 ≤ (limV x).weight ∧ mass (unfV l x).1 ≤ 140000 := by
  have hd := clamp_le x.depth 64 (by omega)
  have hw := clamp_le x.weight 65536 (by omega)
  rw [show clampI x.depth 64 = (limV x).depth from rfl] at hd
  rw [show clampI x.weight 65536 = (limV x).weight from rfl] at hw
  unfold unfV at h ⊢
  by_cases h1 : (refAt l 0 0).2 = 0
  · rw [if_pos h1] at h ⊢
    by_cases h2 : (mean l (limV x).depth.toNat (refAt l 0 0).1 (limV x).weight).2.2 = 0
    · rw [if_pos h2] at h ⊢
      obtain ⟨g1, g2, g3, g4, g5⟩ := mean_good hl (limV x).depth.toNat _ _ (okX_at hl 0 0) hw.1 hw.2 h2
      rw [Int.toNat_of_nonneg hd.1] at g2
      have hm := mass_weight _ _ g2
      refine ⟨rightT_mono _ _ _ hd.1 hd.2 g2, g3, (depthT_le _ _ hd.1 g2).2, g5, by dsimp only; omega, ?_⟩
      dsimp only
      split at hm <;> omega
    · rw [if_neg h2] at h; exact absurd h h2
  · rw [if_neg h1] at h; exact absurd h h1

end Go.AM.Ythokdjgpdonhgaa

namespace Go.AM

def More (r r' : Tree × Int × Int) (k : Int) : Prop := r.2.2 = 0 → r' = (r.1, r.2.1 + k, 0)
def MoreM (m m' : XRef → Int → Tree × Int × Int) (k : Int) : Prop := ∀ x left, More (m x left) (m' x (left + k)) k

theorem loopM_more {f g : Int → Int → Tree × Int × Int} {k : Int} (h : ∀ i left, More (f i left) (g i (left + k)) k) : ∀ (n : Nat) (i left : Int) (acc : List Tree), (loopM f n i left acc).2.2 = 0 →
    loopM g n i (left + k) acc = ((loopM f n i left acc).1, (loopM f n i left acc).2.1 + k, 0)
  | 0, _, _, _, _ => rfl
  | n + 1, i, left, acc, h0 => by
    simp only [loopM] at h0 ⊢
    by_cases he : (f i left).2.2 = 0
    · rw [if_pos he] at h0 ⊢
      have hg := h i left he
      rw [hg]
      simp only
      rw [if_pos trivial]
      exact loopM_more h n (i + 1) (f i left).2.1 (acc ++ [(f i left).1]) h0
    · rw [if_neg he] at h0
      exact absurd h0 he

theorem kidsM_more {l : List (List Int)} {m m' : XRef → Int → Tree × Int × Int} {k : Int} (h : MoreM m m' k) (x : XRef) (left : Int) : More (kidsM l m x left) (kidsM l m' x (left + k)) k := by
  intro h0
  unfold kidsM at h0 ⊢
  have := loopM_more (f := fun j left => if (kidX l x j).2 = 0 then m (kidX l x j).1 left else (Tree.nil, left, (kidX l x j).2)) (g := fun j left => if (kidX l x j).2 = 0 then m' (kidX l x j).1 left else (Tree.nil, left, (kidX l x j).2)) (k := k) (by
    intro i left hi
    by_cases he : (kidX l x i).2 = 0
    · simp only [he, if_true] at hi ⊢
      exact h _ _ hi
    · simp only [he, if_false] at hi) x.ptrs.toNat 0 left [] h0
  rw [this]

theorem kidM_more {l : List (List Int)} {m m' n n' : XRef → Int → Tree × Int × Int} {k : Int} (h : MoreM m m' k) (h' : MoreM n n' k) (x : XRef) (i left : Int) : More (kidM l m n x i left) (kidM l m' n' x i (left + k)) k := by
  intro h0
  unfold kidM at h0 ⊢
  by_cases he : (kidX l x i).2 = 0
  · rw [if_pos he] at h0 ⊢
    rw [if_pos he]
    by_cases h9 : x.kind = 9
    · rw [if_pos h9] at h0 ⊢
      rw [if_pos h9]
      exact kidsM_more h' _ _ h0
    · rw [if_neg h9] at h0 ⊢
      rw [if_neg h9]
      by_cases h1 : x.kind = 1 ∨ x.kind = 8
      · rw [if_pos h1] at h0 ⊢
        rw [if_pos h1]
        exact h _ _ h0
      · rw [if_neg h1, if_neg h1]
  · rw [if_neg he] at h0
    exact absurd h0 he

theorem stepM_more {l : List (List Int)} {d d' : Nat} (hd : d ≤ d') {m m' n n' : XRef → Int → Tree × Int × Int} {k : Int} (hk : 0 ≤ k) (h : MoreM m m' k) (h' : MoreM n n' k) : MoreM (stepM l d m n) (stepM l d' m' n') k := by
  intro x left h0
  unfold stepM at h0 ⊢
  by_cases h1 : x.kind = 0
  · rw [if_pos h1, if_pos h1]
  · rw [if_neg h1] at h0 ⊢
    rw [if_neg h1]
    by_cases h2 : d = 0 ∨ (x.kind = 9 ∧ 0 < x.count ∧ d < 2) ∨ left < ownX x
    · rw [if_pos h2] at h0; cases h0
    · rw [if_neg h2] at h0 ⊢
      rw [if_neg (show ¬(d' = 0 ∨ (x.kind = 9 ∧ 0 < x.count ∧ d' < 2) ∨ left + k < ownX x) by
        rintro (q | q | q)
        · exact h2 (.inl (by omega))
        · exact h2 (.inr (.inl ⟨q.1, q.2.1, by omega⟩))
        · exact h2 (.inr (.inr (by omega))))]
      have := loopM_more (k := k) (fun i left => kidM_more (l := l) h h' x i left) (kidsX x).toNat 0 (left - ownX x) [] h0
      rw [show left + k - ownX x = left - ownX x + k by omega, this]

theorem none_more {m' : XRef → Int → Tree × Int × Int} {k : Int} : MoreM (fun _ left => (Tree.nil, left, 3)) m' k := fun _ _ h => by cases h

theorem mean_more {l : List (List Int)} {k : Int} (hk : 0 ≤ k) : ∀ (d d' : Nat), d ≤ d' → MoreM (mean l d) (mean l d') k := by
  intro d
  induction d using Nat.strongRecOn with
  | ind d ih =>
    intro d' hd
    match d, d', hd with
    | 0, 0, hd => exact stepM_more hd hk none_more none_more
    | 0, 1, hd => exact stepM_more hd hk none_more none_more
    | 0, d' + 2, hd => exact stepM_more hd hk none_more none_more
    | 1, 1, hd => exact stepM_more hd hk (ih 0 (by omega) 0 (by omega)) none_more
    | 1, d' + 2, hd => exact stepM_more hd hk (ih 0 (by omega) (d' + 1) (by omega)) none_more
    | d + 2, d' + 2, hd => exact stepM_more hd hk (ih (d + 1) (by omega) (d' + 1) (by omega)) (ih d (by omega) d' (by omega))

end Go.AM

namespace Go.AM.Ythokdjgpdonhgaa
open Go.AM

def valX (l : List (List Int)) (x : XRef) : Tree := (mean l 64 x 65536).1
def valT (r : Ref) : Tree := valX (segO r.a) (unX r)
def valE (r : Ref) : Prop := (mean (segO r.a) 64 (unX r) 65536).2.2 = 0

theorem val_of {l : List (List Int)} {d : Nat} {x : XRef} {left : Int} (hd : d ≤ 64) (hl : left ≤ 65536) (h : (mean l d x left).2.2 = 0) : (mean l 64 x 65536).2.2 = 0 ∧ (mean l d x left).1 = valX l x := by
  have := mean_more (l := l) (k := 65536 - left) (by omega) d 64 hd x left h
  rw [show left + (65536 - left) = 65536 by omega] at this
  unfold valX
  rw [this]
  exact ⟨rfl, rfl⟩

theorem loopM_get {f : Int → Int → Tree × Int × Int} {Q : Int → Int → Prop} (hf : ∀ i left, Q i left → (f i left).2.2 = 0 → Q (i + 1) (f i left).2.1) :
    ∀ (n : Nat) (i left : Int) (acc : List Tree), Q i left → (loopM f n i left acc).2.2 = 0 →
      ∃ ks, (loopM f n i left acc).1 = acc ++ ks ∧ ks.length = n ∧ ∀ j : Nat, j < n → ∃ le, Q (i + j) le ∧ (f (i + j) le).2.2 = 0 ∧ ks.getD j Tree.nil = (f (i + j) le).1
  | 0, i, left, acc, _, _ => ⟨[], by simp [loopM]⟩
  | n + 1, i, left, acc, h0, he => by
    simp only [loopM] at he ⊢
    by_cases h1 : (f i left).2.2 = 0
    · rw [if_pos h1] at he ⊢
      obtain ⟨ks, q1, q2, q3⟩ := loopM_get hf n (i + 1) (f i left).2.1 (acc ++ [(f i left).1]) (hf i left h0 h1) he
      refine ⟨(f i left).1 :: ks, by rw [q1]; simp, by simp [q2], ?_⟩
      rintro (_ | j) hj
      · exact ⟨left, by simpa using h0, by simpa using h1, by simp⟩
      · obtain ⟨le, a1, a2, a3⟩ := q3 j (by omega)
        rw [show i + 1 + (j : Int) = i + ((j + 1 : Nat) : Int) by omega] at a1 a2 a3
        exact ⟨le, a1, a2, by rw [List.getD_cons_succ]; exact a3⟩
    · rw [if_neg h1] at he
      exact absurd he h1

theorem valX_zero {l : List (List Int)} {x : XRef} (h : x.kind = 0) : valX l x = ⟨0, wordsX l x, []⟩ ∧ (mean l 64 x 65536).2.2 = 0 := by
  unfold valX
  rw [mean_eq (by omega)]
  unfold stepM
  rw [if_pos h]
  exact ⟨rfl, rfl⟩

theorem val_kids {l : List (List Int)} (hl : okSeg l) {x : XRef} (hx : OkX l x) (h : (mean l 64 x 65536).2.2 = 0) :
    ∃ ks, valX l x = ⟨x.kind, wordsX l x, ks⟩ ∧ (ks.length : Int) = kidsX x ∧ ∀ i : Int, 0 ≤ i → i < kidsX x → (kidX l x i).2 = 0 ∧ (mean l 64 (kidX l x i).1 65536).2.2 = 0 ∧ ks.getD i.toNat Tree.nil = valX l (kidX l x i).1 := by
  have hkx := kidsX_le hx
  by_cases h0 : x.kind = 0
  · refine ⟨[], by rw [(valX_zero h0).1, h0], ?_, ?_⟩
    · have := hx.null h0
      rw [this]; rfl
    · intro i h1 h2
      rw [hx.null h0] at h2
      exact absurd h2 (by show ¬ i < 0; omega)
  have hdt := hx.data
  have hpt := hx.ptrs
  have hcc := hx.count
  have hown := ownX_pos hx
  unfold valX
  rw [mean_eq (by omega)] at h ⊢
  unfold stepM at h ⊢
  rw [if_neg h0] at h ⊢
  by_cases hq : (64 : Nat) = 0 ∨ (x.kind = 9 ∧ 0 < x.count ∧ 64 < 2) ∨ (65536 : Int) < ownX x
  · rw [if_pos hq] at h; cases h
  · rw [if_neg hq] at h ⊢
    obtain ⟨ks, q1, q2, q3⟩ := loopM_get (Q := fun _ left => 0 ≤ left ∧ left ≤ 65536 - ownX x) (f := kidM l (mean l 63) (mean l 62) x) (fun i left hQ he => by
      have hf := kidM_fine hl (mean_fine hl 63) (mean_fine hl 62) hx i left hQ.1
      exact ⟨hf.1, Int.le_trans hf.2 hQ.2⟩) (kidsX x).toNat 0 (65536 - ownX x) [] ⟨by omega, Int.le_refl _⟩ h
    refine ⟨ks, by dsimp only; rw [q1, List.nil_append], by rw [q2, Int.toNat_of_nonneg hkx.1], ?_⟩
    intro i hi hn
    obtain ⟨le, a1, a2, a3⟩ := q3 i.toNat (by omega)
    rw [show (0 : Int) + (i.toNat : Int) = i by omega] at a2 a3
    rw [a3]
    unfold kidM at a2 ⊢
    by_cases hk2 : (kidX l x i).2 = 0
    · rw [if_pos hk2] at a2 ⊢
      refine ⟨hk2, ?_⟩
      by_cases h9 : x.kind = 9
      · rw [if_pos h9] at a2 ⊢
        have hkx' := okX_kid hl hx i
        have e1 : (kidX l x i).1.kind = 1 ∧ (kidX l x i).1.data = x.data ∧ (kidX l x i).1.ptrs = x.ptrs := by
          have e : kidsX x = x.count := by unfold kidsX; rw [if_neg (by omega)]
          unfold kidX
          rw [if_neg (by omega), if_neg (by omega), if_neg (by omega), if_pos h9]
          exact ⟨rfl, rfl, rfl⟩
        generalize (kidX l x i).1 = z at a2 e1 hkx' ⊢
        have hoz : ownX z = 1 + x.data + x.ptrs := by unfold ownX; rw [if_pos e1.1, e1.2.1, e1.2.2]
        have hox : 1 + x.data + x.ptrs < ownX x := by
          have e : kidsX x = x.count := by unfold kidsX; rw [if_neg (by omega)]
          unfold ownX
          rw [if_neg (by omega), if_pos h9]
          have : 1 * (1 + x.data + x.ptrs) ≤ x.count * (1 + x.data + x.ptrs) := Int.mul_le_mul_of_nonneg_right (by omega) (by omega)
          omega
        have key : mean l 63 z (le + ownX z) = kidsM l (mean l 62) z le := by
          rw [mean_eq (by omega)]
          unfold stepM kidsM
          rw [if_neg (show ¬ z.kind = 0 by omega), if_neg (show ¬((63 : Nat) = 0 ∨ (z.kind = 9 ∧ 0 < z.count ∧ (63 : Nat) < 2) ∨ le + ownX z < ownX z) by omega), show le + ownX z - ownX z = le by omega, show kidsX z = z.ptrs by unfold kidsX; rw [if_pos e1.1]]
          have ef : kidM l (mean l 62) (mean l 61) z = fun j left => if (kidX l z j).2 = 0 then mean l 62 (kidX l z j).1 left else (Tree.nil, left, (kidX l z j).2) := by
            funext j left
            unfold kidM
            rw [if_neg (show ¬ z.kind = 9 by omega), if_pos (show z.kind = 1 ∨ z.kind = 8 from .inl e1.1)]
          rw [e1.1, show (63 : Nat) - 1 = 62 from rfl, show (63 : Nat) - 2 = 61 from rfl, ef]
        rw [← key] at a2 ⊢
        exact val_of (by omega) (by omega) a2
      · rw [if_neg h9] at a2 ⊢
        by_cases h18 : x.kind = 1 ∨ x.kind = 8
        · rw [if_pos h18] at a2 ⊢
          exact val_of (by omega) (by omega) a2
        · rw [if_neg h18]
          have e : kidsX x = x.count := by unfold kidsX; rw [if_neg (by omega)]
          have ek : (kidX l x i).1.kind = 10 := by
            unfold kidX
            rw [if_neg (by omega), if_neg (by omega), if_neg (by omega), if_neg (by omega)]
          have hz := okX_kid hl hx i
          generalize (kidX l x i).1 = z at ek hz ⊢
          have h10 := hz.zero (.inr ek)
          have hkz : kidsX z = 0 := by unfold kidsX; rw [if_neg (by omega)]; exact h10
          have ho : ownX z = 1 := by unfold ownX; rw [if_neg (by omega), if_neg (by omega), h10]; rfl
          rw [mean_eq (by omega)]
          unfold stepM
          rw [if_neg (show ¬ z.kind = 0 by omega), if_neg (show ¬((64 : Nat) = 0 ∨ (z.kind = 9 ∧ 0 < z.count ∧ (64 : Nat) < 2) ∨ (65536 : Int) < ownX z) by omega), hkz]
          exact ⟨rfl, rfl⟩
    · rw [if_neg hk2] at a2
      exact absurd a2 hk2

theorem val_lift {a : Option Arena} {x : XRef} (hx : OkX (segO a) x) : valT (liftX a x) = valX (segO a) x ∧ ((mean (segO a) 64 x 65536).2.2 = 0 → valE (liftX a x)) := by
  unfold valT valE
  rw [unX_lift hx]
  by_cases h0 : x.kind = 0
  · have e := hx.null h0
    subst e
    exact ⟨rfl, fun _ => (valX_zero rfl).2⟩
  · rw [a_lift h0]
    exact ⟨rfl, id⟩

theorem val_good {r : Ref} (h : okR r) (he : valE r) : rightT (valT r) 64 = true ∧ rng (valT r) ∧ mass (valT r) ≤ 140000 := by
  obtain ⟨g1, g2, g3, g4, g5⟩ := mean_good h.1 64 (unX r) 65536 h.2 (by omega) (by omega) he
  have hm := mass_weight _ _ g2
  refine ⟨g2, g3, ?_⟩
  show mass (mean (segO r.a) 64 (unX r) 65536).1 ≤ 140000
  split at hm <;> omega

theorem unf_root {l : List (List Int)} {x : Limits} (h : (unfV l x).2.2 = 0) : (refAt l 0 0).2 = 0 ∧ (mean l 64 (refAt l 0 0).1 65536).2.2 = 0 ∧ (unfV l x).1 = valX l (refAt l 0 0).1 := by
  have hd := clamp_le x.depth 64 (by omega)
  have hw := clamp_le x.weight 65536 (by omega)
  rw [show clampI x.depth 64 = (limV x).depth from rfl] at hd
  rw [show clampI x.weight 65536 = (limV x).weight from rfl] at hw
  unfold unfV at h ⊢
  by_cases h1 : (refAt l 0 0).2 = 0
  · rw [if_pos h1] at h ⊢
    by_cases h2 : (mean l (limV x).depth.toNat (refAt l 0 0).1 (limV x).weight).2.2 = 0
    · rw [if_pos h2] at h ⊢
      have := val_of (by omega) hw.2 h2
      exact ⟨h1, this⟩
    · rw [if_neg h2] at h; exact absurd h h2
  · rw [if_neg h1] at h; exact absurd h h1

theorem unf_nil {l : List (List Int)} {x : Limits} (h : (unfV l x).2.2 ≠ 0) : (unfV l x).1 = Tree.nil := by
  unfold unfV at h ⊢
  by_cases h1 : (refAt l 0 0).2 = 0
  · rw [if_pos h1] at h ⊢
    by_cases h2 : (mean l (limV x).depth.toNat (refAt l 0 0).1 (limV x).weight).2.2 = 0
    · rw [if_pos h2] at h; exact absurd rfl h
    · rw [if_neg h2]
  · rw [if_neg h1]

end Go.AM.Ythokdjgpdonhgaa

namespace Go.AM.Ythokdjgpdonhgaa
open Go.AM Go.Proofs

def args52 : ArgL (Ref × Unit) := (.cons (aEl .ref) .nil)
def pre52 (a : Ref × Unit) : Prop := okR a.1 ∧ valE a.1
def mu52 (a : Ref × Unit) : Nat := mass (valT a.1)
noncomputable def res52 (a : Ref × Unit) : V U := .tup [(true, [.int .i64 (Tree.kind (valT a.1)), .slice (U := U) .u64 (Tree.words (valT a.1)) .unk, .slice (U := U) .tree (Tree.kids (valT a.1)) .unk]), (false, [.int .i64 0])]
noncomputable def spec52 : Fs U := fs args52 (fun a => [pre52 a]) res52

def args48 : ArgL (Option Arena × Limits × Unit) := (.cons (aPo .arena) (.cons (aEl .limits) .nil))
def pre48 (a : Option Arena × Limits × Unit) : Prop := okA a.1
noncomputable def res48 (a : Option Arena × Limits × Unit) : V U := .tup [(true, [.int .i64 (Tree.kind (normT (unfV (segO a.1) a.2.1).1)), .slice (U := U) .u64 (Tree.words (normT (unfV (segO a.1) a.2.1).1)) .unk, .slice (U := U) .tree (Tree.kids (normT (unfV (segO a.1) a.2.1).1)) .unk]), (false, [.int .i64 ((unfV (segO a.1) a.2.1).2.2)])]
noncomputable def spec48 : Fs U := fs args48 (fun a => [pre48 a]) res48

def args51 : ArgL (Unit) := .nil
def pre51 (a : Unit) : Prop := True
noncomputable def res51 (a : Unit) : V U := .c (.bool true)
noncomputable def spec51 : Fs U := fs args51 (fun a => [pre51 a]) res51

noncomputable def know52 (N : Nat) : List (FuncId × Fs U) := (52, fs args52 (fun a => [pre52 a, mu52 a < N]) res52) :: [(22, spec22), (59, spec59), (25, spec25), (23, spec23), (24, spec24)]
def lv52 : Lives U := fun i => match i with
  | 0 => ([(1, []), (2, [])], [((.loc 1), []), ((.loc 2), [])])
  | 1 => ([(1, []), (2, []), (4, [])], [((.loc 1), []), ((.loc 2), []), ((.loc 4), [])])
  | 2 => ([(1, []), (2, []), (4, []), (14, []), (15, [])], [((.loc 1), []), ((.loc 2), []), ((.loc 4), [.any, .own .u64])])
  | 3 => ([(1, []), (2, []), (4, []), (14, []), (15, []), (16, [])], [((.loc 1), []), ((.loc 2), []), ((.loc 4), [])])
  | 4 => ([(1, []), (2, []), (4, []), (5, []), (14, []), (15, [])], [((.loc 1), []), ((.loc 2), []), ((.loc 4), [])])
  | 5 => ([(1, []), (2, []), (4, []), (14, []), (15, [])], [((.loc 1), []), ((.loc 2), []), ((.loc 4), [])])
  | 6 => ([(1, []), (2, []), (4, []), (14, []), (15, [])], [((.loc 1), []), ((.loc 2), []), ((.loc 4), [.any, .own .u64])])
  | 7 => ([(1, []), (2, []), (4, []), (28, []), (29, [])], [((.loc 1), []), ((.loc 2), []), ((.loc 4), [.any, .any, .own .tree])])
  | 8 => ([(1, []), (2, []), (4, []), (28, []), (29, []), (30, [])], [((.loc 1), []), ((.loc 2), []), ((.loc 4), [])])
  | 9 => ([(1, []), (2, []), (4, []), (6, []), (28, []), (29, [])], [((.loc 1), []), ((.loc 2), []), ((.loc 4), [])])
  | 10 => ([(1, []), (2, []), (4, []), (7, []), (8, []), (28, []), (29, [])], [((.loc 1), []), ((.loc 2), []), ((.loc 4), []), ((.loc 7), [])])
  | 11 => ([(1, []), (2, []), (4, []), (7, []), (8, []), (28, []), (29, []), (39, [])], [((.loc 1), []), ((.loc 2), []), ((.loc 4), []), ((.loc 7), [])])
  | 12 => ([(2, []), (3, [])], [((.loc 2), [])])
  | 13 => ([(1, []), (2, []), (4, []), (8, []), (9, []), (28, []), (29, [])], [((.loc 1), []), ((.loc 2), []), ((.loc 4), []), ((.loc 9), [])])
  | 14 => ([(1, []), (2, []), (4, []), (8, []), (9, []), (28, []), (29, []), (48, [])], [((.loc 1), []), ((.loc 2), []), ((.loc 4), []), ((.loc 9), [])])
  | 15 => ([(2, []), (3, [])], [((.loc 2), [])])
  | 16 => ([(1, []), (2, []), (4, []), (28, []), (29, [])], [((.loc 1), []), ((.loc 2), []), ((.loc 4), [])])
  | 17 => ([(1, []), (2, []), (4, []), (28, []), (29, [])], [((.loc 1), []), ((.loc 2), []), ((.loc 4), [.any, .any, .own .tree])])
  | 18 => ([(2, []), (3, [])], [((.loc 2), [])])
  | _ => ([], [])
noncomputable def head52_0 (r : Ref) (x15 : Int) (ml4_1 : List Int) : LSt U := (⟨[(1, .ptr (.loc 1) 0), (2, .ptr (.loc 2) 0), (4, .ptr (.loc 4) 0), (14, .c (.int .i64 (lenR (Ref.mk (Ref.a r) (Ref.kind r) (Ref.segment r) (Ref.at_ r) (Ref.data r) (Ref.kids r) (Ref.count r) (Ref.number r))))), (15, .c (.int .i64 x15))], [((.loc 1), [.po (U := U) .arena (Ref.a r), .int .i64 (Ref.kind r), .int .i64 (Ref.segment r), .int .i64 (Ref.at_ r), .int .i64 (Ref.data r), .int .i64 (Ref.kids r), .int .i64 (Ref.count r), .int .u64 (Ref.number r)]), ((.loc 2), [.int .i64 0, .nils, .nils]), ((.loc 4), [.int .i64 (Ref.kind (Ref.mk (Ref.a r) (Ref.kind r) (Ref.segment r) (Ref.at_ r) (Ref.data r) (Ref.kids r) (Ref.count r) (Ref.number r))), .slice (U := U) .u64 ml4_1 (.own (.l 4 1)), .nils])], []⟩ : LSt U)
noncomputable def head52_1 (r : Ref) (ml4_1 : List Int) (x29_a : Int) (ml4_2_a : List Tree) : LSt U := (⟨[(1, .ptr (.loc 1) 0), (2, .ptr (.loc 2) 0), (4, .ptr (.loc 4) 0), (28, .c (.int .i64 (kidsR (Ref.mk (Ref.a r) (Ref.kind r) (Ref.segment r) (Ref.at_ r) (Ref.data r) (Ref.kids r) (Ref.count r) (Ref.number r))))), (29, .c (.int .i64 x29_a))], [((.loc 1), [.po (U := U) .arena (Ref.a r), .int .i64 (Ref.kind r), .int .i64 (Ref.segment r), .int .i64 (Ref.at_ r), .int .i64 (Ref.data r), .int .i64 (Ref.kids r), .int .i64 (Ref.count r), .int .u64 (Ref.number r)]), ((.loc 2), [.int .i64 0, .nils, .nils]), ((.loc 4), [.int .i64 (Ref.kind (Ref.mk (Ref.a r) (Ref.kind r) (Ref.segment r) (Ref.at_ r) (Ref.data r) (Ref.kids r) (Ref.count r) (Ref.number r))), .slice (U := U) .u64 ml4_1 (.own (.l 4 1)), .slice (U := U) .tree ml4_2_a (.own (.l 4 2))])], []⟩ : LSt U)
noncomputable abbrev A52 (N : Nat) (p : List Nat) := awp cfg (know (know52 N)) (drawOk cfg (know (know52 N))) Try.f52.ntmps lv52 (cd Try.f52 p)
noncomputable abbrev S52 (N : Nat) (p : List Nat) := seqK cfg (know (know52 N)) (drawOk cfg (know (know52 N))) Try.f52.ntmps lv52 (cd Try.f52 p)
theorem vc52 (N : Nat) (r : Ref) (Q : AExit → LSt U → Prop) (h : ((pre22 ((Ref.mk (Ref.a r) (Ref.kind r) (Ref.segment r) (Ref.at_ r) (Ref.data r) (Ref.kids r) (Ref.count r) (Ref.number r)), ())) ∧ ((pre59 ((Ref.mk (Ref.a r) (Ref.kind r) (Ref.segment r) (Ref.at_ r) (Ref.data r) (Ref.kids r) (Ref.count r) (Ref.number r)), ())) ∧ (LoopWp (A52 N [1, 1, 0, 1, 0, 0]) (head52_0 r 0 ([])) (AExit.inBlock 0 (S52 N [1, 1, 1] Q)))))) :
    A52 N [] (⟨[(0, .agg [.po (U := U) .arena (Ref.a r), .int .i64 (Ref.kind r), .int .i64 (Ref.segment r), .int .i64 (Ref.at_ r), .int .i64 (Ref.data r), .int .i64 (Ref.kids r), .int .i64 (Ref.count r), .int .u64 (Ref.number r)])], [], []⟩ : LSt U) Q :=
  Eq.mpr (by kernel_rfl) h
theorem vc52_l0 (N : Nat) (r : Ref) (x15 : Int) (ml4_1 : List Int) (N0 : LSt U → Prop) (Q : AExit → LSt U → Prop) (h : (((decide ((x15 : Int) < (lenR (Ref.mk (Ref.a r) (Ref.kind r) (Ref.segment r) (Ref.at_ r) (Ref.data r) (Ref.kids r) (Ref.count r) (Ref.number r))))) = true → ((pre25 ((Ref.mk (Ref.a r) (Ref.kind r) (Ref.segment r) (Ref.at_ r) (Ref.data r) (Ref.kids r) (Ref.count r) (Ref.number r)), x15, ())) ∧ ((ml4_1.length + ([wordR (Ref.mk (Ref.a r) (Ref.kind r) (Ref.segment r) (Ref.at_ r) (Ref.data r) (Ref.kids r) (Ref.count r) (Ref.number r)) x15]).length) * 8 ≤ 140737488355328) ∧ ((InR ((x15 : Int) + 1)) ∧ (N0 (head52_0 r ((x15 : Int) + 1) (ml4_1 ++ ([wordR (Ref.mk (Ref.a r) (Ref.kind r) (Ref.segment r) (Ref.at_ r) (Ref.data r) (Ref.kids r) (Ref.count r) (Ref.number r)) x15]))))))) ∧ ((decide ((x15 : Int) < (lenR (Ref.mk (Ref.a r) (Ref.kind r) (Ref.segment r) (Ref.at_ r) (Ref.data r) (Ref.kids r) (Ref.count r) (Ref.number r))))) = false → (pre23 ((Ref.mk (Ref.a r) (Ref.kind r) (Ref.segment r) (Ref.at_ r) (Ref.data r) (Ref.kids r) (Ref.count r) (Ref.number r)), ())) ∧ (LoopWp (A52 N [1, 1, 1, 0, 1, 0, 0]) (head52_1 r ml4_1 0 ([])) (AExit.inBlock 2 (S52 N [1, 1, 1, 1] Q)))))) :
    A52 N [1, 1, 0, 1, 0, 0] (head52_0 r x15 ml4_1) (AExit.then N0 (AExit.inBlock 0 (S52 N [1, 1, 1] Q))) :=
  Eq.mpr (by kernel_rfl) h
theorem vc52_l1 (N : Nat) (r : Ref) (ml4_1 : List Int) (x29_a : Int) (ml4_2_a : List Tree) (N1 : LSt U → Prop) (Q : AExit → LSt U → Prop) (h : ∀ y_1, y_1 = (r) → ∀ y_2, y_2 = (liftX (Ref.a y_1) (kidX (segO (Ref.a y_1)) (unX y_1) x29_a).1) → ∀ y_3, y_3 = (y_2) → ∀ y_4, y_4 = ((valT y_3)) → (((decide ((x29_a : Int) < (kidsR y_1))) = true → ((pre24 (y_1, x29_a, ())) ∧ (((((((kidX (segO (Ref.a y_1)) (unX y_1) x29_a).2) : Int) != 0) = true → (Q .ret (⟨[(2, .ptr (.loc 2) 0), (3, .c (.int .i64 ((kidX (segO (Ref.a y_1)) (unX y_1) x29_a).2)))], [((.loc 2), [.int .i64 0, .nils, .nils])], []⟩ : LSt U))) ∧ (((((kidX (segO (Ref.a y_1)) (unX y_1) x29_a).2) : Int) != 0) = false → (pre52 (y_3, ())) ∧ (mu52 (y_3, ()) < N) ∧ (((((0 : Int) != 0) = true → (Q .ret (⟨[(2, .ptr (.loc 2) 0), (3, .c (.int .i64 0))], [((.loc 2), [.int .i64 0, .nils, .nils])], []⟩ : LSt U))) ∧ (((0 : Int) != 0) = false → ((ml4_2_a.length + ([y_4]).length) * 56 ≤ 140737488355328) ∧ ((InR ((x29_a : Int) + 1)) ∧ (N1 (head52_1 r ml4_1 ((x29_a : Int) + 1) (ml4_2_a ++ ([y_4]))))))))))))) ∧ ((decide ((x29_a : Int) < (kidsR y_1))) = false → (Q .ret (⟨[(2, .ptr (.loc 2) 0), (3, .c (.int .i64 0))], [((.loc 2), [.int .i64 (Ref.kind y_1), .slice (U := U) .u64 ml4_1 (.own (.l 2 1)), .slice (U := U) .tree ml4_2_a (.own (.l 2 2))])], []⟩ : LSt U))))) :
    A52 N [1, 1, 1, 0, 1, 0, 0] (head52_1 r ml4_1 x29_a ml4_2_a) (AExit.then N1 (AExit.inBlock 2 (S52 N [1, 1, 1, 1] Q))) :=
  Eq.mpr (by kernel_rfl) (h _ (reRef_eq _) _ rfl _ (reRef_eq _) _ (reTree_eq _))
def Body52 (N : Nat) (r : Ref)  : Prop := awp cfg (know (know52 N)) (drawOk cfg (know (know52 N))) Try.f52.ntmps lv52 (cd Try.f52 []) (entry (args52.can (r, ())) []) (EndsQ cfg Try.f52.ntmps Try.f52.results.toList (res52 (r, ())) [])
theorem make52 (c22 : Contract Try.prog cfg 22 spec22) (c59 : Contract Try.prog cfg 59 spec59) (c25 : Contract Try.prog cfg 25 spec25) (c23 : Contract Try.prog cfg 23 spec23) (c24 : Contract Try.prog cfg 24 spec24) (hb : ∀ (N : Nat) (r : Ref) (_ : Unit), pre52 (r, ()) → mu52 (r, ()) < N + 1 → Body52 N r) : Contract Try.prog cfg 52 spec52 :=
  contract_rec (μ := mu52) (l := [(22, spec22), (59, spec59), (25, spec25), (23, spec23), (24, spec24)]) cfgOk rfl (⟨c22, c59, c25, c23, c24, trivial⟩) lv52 Try.func52 rfl rfl 1 (fun _ => rfl) (by decide) (fun N ⟨r, _⟩ => hb N r ())

noncomputable def know48 : List (FuncId × Fs U) := [(40, spec40), (21, spec21), (52, spec52), (72, spec72)]
def lv48 : Lives U := fun i => match i with
  | 0 => ([(0, []), (3, []), (4, [])], [((.loc 3), []), ((.loc 4), [])])
  | 1 => ([(0, []), (4, []), (7, [])], [((.loc 4), [])])
  | 2 => ([(0, []), (4, []), (7, []), (18, [])], [((.loc 4), [])])
  | 3 => ([(4, []), (5, [])], [((.loc 4), [])])
  | 4 => ([(4, []), (8, []), (9, [])], [((.loc 4), []), ((.loc 8), [])])
  | 5 => ([(4, []), (8, []), (9, []), (27, [])], [((.loc 4), []), ((.loc 8), [])])
  | 6 => ([(4, []), (5, [])], [((.loc 4), [])])
  | 7 => ([(4, []), (9, []), (10, [])], [((.loc 4), []), ((.loc 10), [])])
  | 8 => ([(4, []), (5, [])], [((.loc 4), [])])
  | _ => ([], [])
noncomputable abbrev A48 (p : List Nat) := awp cfg (know know48) (drawOk cfg (know know48)) Try.f48.ntmps lv48 (cd Try.f48 p)
theorem vc48 (a : Option Arena) (x : Limits) (Q : AExit → LSt U → Prop) (h : ∀ y_1, y_1 = (x) → ∀ y_2, y_2 = ((liftX a (refAt (segO a) 0 0).1)) → ∀ y_3, y_3 = ((valT y_2)) → ((pre40 (a, y_1, ())) ∧ (((((((unfV (segO a) y_1).2.2) : Int) != 0) = true → (Q .ret (⟨[(4, .ptr (.loc 4) 0), (5, .c (.int .i64 ((unfV (segO a) y_1).2.2)))], [((.loc 4), [.int .i64 0, .nils, .nils])], []⟩ : LSt U))) ∧ (((((unfV (segO a) y_1).2.2) : Int) != 0) = false → (pre21 (a, ())) ∧ (((((((refAt (segO a) 0 0).2) : Int) != 0) = true → (Q .ret (⟨[(4, .ptr (.loc 4) 0), (5, .c (.int .i64 ((refAt (segO a) 0 0).2)))], [((.loc 4), [.int .i64 0, .nils, .nils])], []⟩ : LSt U))) ∧ (((((refAt (segO a) 0 0).2) : Int) != 0) = false → (pre52 (y_2, ())) ∧ ((pre72 (y_3, ())) ∧ (Q .ret (⟨[(4, .ptr (.loc 4) 0), (5, .c (.int .i64 0))], [((.loc 4), [.int .i64 (Tree.kind (normT y_3)), .slice (U := U) .u64 (Tree.words (normT y_3)) .unk, .slice (U := U) .tree (Tree.kids (normT y_3)) .unk])], []⟩ : LSt U))))))))))) :
    A48 [] (⟨[(0, .c (.po (U := U) .arena a)), (1, .agg [.int .i64 (Limits.depth x), .int .i64 (Limits.weight x), .int .i64 (Limits.maxD x), .int .i64 (Limits.maxOut x)])], [], []⟩ : LSt U) Q :=
  Eq.mpr (by kernel_rfl) (h _ (reLimits_eq _) _ (reRef_eq _) _ (reTree_eq _))
def Body48 (a : Option Arena) (x : Limits)  : Prop := awp cfg (know (know48)) (drawOk cfg (know (know48))) Try.f48.ntmps lv48 (cd Try.f48 []) (entry (args48.can (a, x, ())) []) (EndsQ cfg Try.f48.ntmps Try.f48.results.toList (res48 (a, x, ())) [])
theorem make48 (c40 : Contract Try.prog cfg 40 spec40) (c21 : Contract Try.prog cfg 21 spec21) (c52 : Contract Try.prog cfg 52 spec52) (c72 : Contract Try.prog cfg 72 spec72) (hb : ∀ (a : Option Arena) (x : Limits) (_ : Unit), pre48 (a, x, ()) → Body48 a x) : Contract Try.prog cfg 48 spec48 :=
  contract_flat (l := [(40, spec40), (21, spec21), (52, spec52), (72, spec72)]) cfgOk rfl (⟨c40, c21, c52, c72, trivial⟩) lv48 Try.func48 rfl rfl 2 (fun _ => rfl) (by decide) (fun ⟨a, x, _⟩ => hb a x ())

noncomputable def know51 : List (FuncId × Fs U) := [(20, spec20), (48, spec48)]
def lv51 : Lives U := fun i => match i with
  | 0 => ([], [])
  | 1 => ([(1, []), (2, [])], [((.loc 1), [])])
  | 2 => ([(0, [])], [])
  | _ => ([], [])
noncomputable abbrev A51 (p : List Nat) := awp cfg (know know51) (drawOk cfg (know know51)) Try.f51.ntmps lv51 (cd Try.f51 p)
theorem vc51 (Q : AExit → LSt U → Prop) (h : ∀ y_1, y_1 = (unfV (segO (some (Arena.mk ([[4294967296, 0]]) 0 0 0))) (Limits.mk 1 2 0 0)) → ((pre20 (([[4294967296, 0]]), ())) ∧ (pre48 ((some (Arena.mk ([[4294967296, 0]]) 0 0 0)), (Limits.mk 1 2 0 0), ())) ∧ ((Tr ((((y_1.2.2) : Int) == 0) = true)) ∧ (Tr ((((y_1.2.2) : Int) == 0) = true)) ∧ ((Tr ((((y_1.2.2) : Int) == 0) = true))) ∧ (Tr ((bif (((y_1.2.2) : Int) == 0) then (((Tree.kind (normT y_1.1)) : Int) == 1) else false) = true)) ∧ (Tr ((bif (((y_1.2.2) : Int) == 0) then (((Tree.kind (normT y_1.1)) : Int) == 1) else false) = true)) ∧ (Tr ((bif (((y_1.2.2) : Int) == 0) then (((Tree.kind (normT y_1.1)) : Int) == 1) else false) = true)) ∧ (Tr ((bif (((y_1.2.2) : Int) == 0) then (((Tree.kind (normT y_1.1)) : Int) == 1) else false) = true)) ∧ (Tr ((bif (((y_1.2.2) : Int) == 0) then (((Tree.kind (normT y_1.1)) : Int) == 1) else false) = true)) ∧ (Tr ((bif (((y_1.2.2) : Int) == 0) then (((Tree.kind (normT y_1.1)) : Int) == 1) else false) = true)) ∧ ((bif (((y_1.2.2) : Int) == 0) then (((Tree.kind (normT y_1.1)) : Int) == 1) else false) = true → InR ((((Tree.words (normT y_1.1)).length : Int) : Int) + ((Tree.kids (normT y_1.1)).length : Int))) ∧ (Tr ((bif (((y_1.2.2) : Int) == 0) then (((Tree.kind (normT y_1.1)) : Int) == 1) else false) = true)) ∧ ((Tr ((bif (((y_1.2.2) : Int) == 0) then (((Tree.kind (normT y_1.1)) : Int) == 1) else false) = true))) ∧ (Q .ret (⟨[(0, .c (.bool (bif (bif (((y_1.2.2) : Int) == 0) then (((Tree.kind (normT y_1.1)) : Int) == 1) else false) then ((((((Tree.words (normT y_1.1)).length : Int) : Int) + ((Tree.kids (normT y_1.1)).length : Int)) : Int) == 0) else false)))], [], []⟩ : LSt U))))) :
    A51 [] (⟨[], [], []⟩ : LSt U) Q :=
  Eq.mpr (by kernel_rfl) (h _ rfl)
def Body51  : Prop := awp cfg (know (know51)) (drawOk cfg (know (know51))) Try.f51.ntmps lv51 (cd Try.f51 []) (entry (args51.can (())) []) (EndsQ cfg Try.f51.ntmps Try.f51.results.toList (res51 (())) [])
theorem make51 (c20 : Contract Try.prog cfg 20 spec20) (c48 : Contract Try.prog cfg 48 spec48) (hb : ∀ (_ : Unit), pre51 (()) → Body51 ) : Contract Try.prog cfg 51 spec51 :=
  contract_flat (l := [(20, spec20), (48, spec48)]) cfgOk rfl (⟨c20, c48, trivial⟩) lv51 Try.func51 rfl rfl 0 (fun _ => rfl) (by decide) (fun _ => hb  ())

end Go.AM.Ythokdjgpdonhgaa

namespace Go.AM.Ythokdjgpdonhgaa
open Go.AM Go.Proofs

theorem take_getD {α : Type} (l : List α) (d : α) (i : Int) (h0 : 0 ≤ i) (h : i < l.length) : l.take i.toNat ++ [l.getD i.toNat d] = l.take (i + 1).toNat := by
  rw [show (i + 1).toNat = i.toNat + 1 by omega, List.getD_eq_getElem?_getD, List.getElem?_eq_getElem (show i.toNat < l.length by omega), Option.getD_some]
  exact List.take_append_getElem (by omega)

theorem mass_kid {k : Int} {w : List Int} {ks : List Tree} {i : Nat} (h : i < ks.length) : mass (ks.getD i Tree.nil) < mass (.mk k w ks) := by
  have := massK_get h
  rw [mass]
  omega

theorem c52 : Contract Try.prog cfg 52 spec52 := by
  refine make52 c22 c59 c25 c23 c24 ?_
  rintro N r _ hp hN
  obtain ⟨hr, he⟩ := hp
  dsimp only at hr he
  have hN' : mass (valT r) < N + 1 := hN
  have hg := val_good hr he
  obtain ⟨ks, e0, hks, hkid⟩ := val_kids hr.1 hr.2 he
  have e0' : valT r = ⟨r.kind, wordsX (segO r.a) (unX r), ks⟩ := e0
  have hkd : kidsR r = ks.length := by rw [kidsR_un]; exact hks.symm
  have hw : ((wordsX (segO r.a) (unX r)).length : Int) = lenR r := by
    rw [(wordsX_rng hr.1 hr.2).2]
    have hk : (unX r).kind = r.kind := rfl
    have hd : (unX r).data = r.data := rfl
    rw [hk, hd]
    unfold lenR
    by_cases h1 : r.kind = 1
    · simp [h1]
    · simp [h1]
  have hm : (wordsX (segO r.a) (unX r)).length + ks.length ≤ 140000 := by
    have h1 := hg.2.2
    have h2 := massK_len ks
    rw [e0', mass] at h1
    omega
  have fin : EndsQ cfg Try.f52.ntmps Try.f52.results.toList (res52 (r, ())) [] .ret (⟨[(2, .ptr (.loc 2) 0), (3, .c (.int .i64 0))], [((.loc 2), [.int .i64 r.kind, .slice .u64 (wordsX (segO r.a) (unX r)) (.own (.l 2 1)), .slice .tree ks (.own (.l 2 2))])], []⟩ : LSt U) := by
    have h : EndsQ cfg Try.f52.ntmps Try.f52.results.toList (.tup [(true, enc .tree ⟨r.kind, wordsX (segO r.a) (unX r), ks⟩), (false, [.int .i64 0])]) [] .ret (⟨[(2, .ptr (.loc 2) 0), (3, .c (.int .i64 0))], [((.loc 2), [.int .i64 r.kind, .slice .u64 (wordsX (segO r.a) (unX r)) (.own (.l 2 1)), .slice .tree ks (.own (.l 2 2))])], []⟩ : LSt U) := by (repeat' (first | exact trivial | exact rfl | refine And.intro ?_ ?_))
    refine ends_eq ?_ h
    simp only [res52]
    rw [e0']
    rfl
  refine vc52 N _ _ ?_
  refine ⟨trivial, trivial, ?_⟩
  refine loop_rule (ι := Int) (fun p => head52_0 r p ((wordsX (segO r.a) (unX r)).take p.toNat)) (fun p => 0 ≤ p ∧ p ≤ lenR r) (fun p => (lenR r - p).toNat) 0 rfl ⟨by omega, by omega⟩ ?_
  rintro i ⟨h1, h2⟩
  refine vc52_l0 _ _ _ _ _ _ ?_
  (simp only [vcT, bif_tl, bif_fr, bif_tlf, bif_frf, Bool.not_eq_true', Bool.not_eq_false', decide_eq_true_eq, decide_eq_false_iff_not, beq_iff_eq, beq_eq_false_iff_ne, bne_iff_ne, ne_eq, bne_eq_false_iff_eq, Bool.or_eq_true, Bool.and_eq_true, Bool.or_eq_false_iff, Bool.and_eq_false_imp])
  refine ⟨fun hi => ⟨hr, by simp only [List.length_append, List.length_take, List.length_cons, List.length_nil]; omega, by ((unfold InR; omega)), i + 1, ?_, ⟨by omega, ?_⟩, ?_⟩, fun hi => ⟨trivial, ?_⟩⟩
  · show head52_0 r (i + 1) (_ ++ [wordR r i]) = head52_0 r (i + 1) _
    have hi' : i < lenR r := hi
    rw [← take_getD (wordsX (segO r.a) (unX r)) 0 i h1 (by omega)]
    unfold wordR
    rw [if_neg (by omega)]
  · have hi' : i < lenR r := hi
    omega
  · have hi' : i < lenR r := hi
    omega
  · have hi' : ¬ i < lenR r := hi
    rw [List.take_of_length_le (by omega)]
    refine loop_rule (ι := Int) (fun p => head52_1 r (wordsX (segO r.a) (unX r)) p (ks.take p.toNat)) (fun p => 0 ≤ p ∧ p ≤ ks.length) (fun p => ((ks.length : Int) - p).toNat) 0 rfl ⟨by omega, by omega⟩ ?_
    rintro j ⟨g1, g2⟩
    refine vc52_l1 _ _ _ _ _ _ _ ?_
    rintro y1 hy1 y2 hy2 y3 hy3 y4 hy4
    replace hy1 := hy1.symm
    subst hy1
    subst hy3
    (simp only [vcT, bif_tl, bif_fr, bif_tlf, bif_frf, Bool.not_eq_true', Bool.not_eq_false', decide_eq_true_eq, decide_eq_false_iff_not, beq_iff_eq, beq_eq_false_iff_ne, bne_iff_ne, ne_eq, bne_eq_false_iff_eq, Bool.or_eq_true, Bool.and_eq_true, Bool.or_eq_false_iff, Bool.and_eq_false_imp])
    rw [hkd]
    refine ⟨fun hj => ?_, fun hj => ?_⟩
    · obtain ⟨q1, q2, q3⟩ := hkid j g1 (by rw [← hks]; exact hj)
      have hkx := okX_kid hr.1 hr.2 j
      have hl := val_lift hkx
      rw [← hy2] at hl
      rw [← hl.1, ← hy4] at q3
      have hmk := mass_kid (k := r.kind) (w := wordsX (segO r.a) (unX r)) (ks := ks) (i := j.toNat) (by omega)
      rw [q3, ← e0'] at hmk
      refine ⟨hr, fun h => absurd q1 h, fun _ => ⟨⟨?_, hl.2 q2⟩, ?_, fun h => absurd trivial h, by simp only [List.length_append, List.length_take, List.length_cons, List.length_nil]; omega, by ((unfold InR; omega)), j + 1, ?_, ⟨by omega, by omega⟩, by omega⟩⟩
      · show okR y3
        rw [hy2]
        exact okR_lift hr.1 hkx
      · show mass (valT y3) < N
        rw [← hy4]
        omega
      · rw [← take_getD ks Tree.nil j g1 hj, q3]
    · rw [List.take_of_length_le (by omega)]
      exact fin

theorem c48 : Contract Try.prog cfg 48 spec48 := by
  refine make48 c40 c21 c52 c72 ?_
  rintro a x _ ha
  simp only [pre48] at ha
  refine vc48 _ _ _ ?_
  rintro y1 hy1 y2 hy2 y3 hy3
  replace hy1 := hy1.symm
  subst hy1
  (simp only [vcT, bif_tl, bif_fr, bif_tlf, bif_frf, Bool.not_eq_true', Bool.not_eq_false', decide_eq_true_eq, decide_eq_false_iff_not, beq_iff_eq, beq_eq_false_iff_ne, bne_iff_ne, ne_eq, bne_eq_false_iff_eq, Bool.or_eq_true, Bool.and_eq_true, Bool.or_eq_false_iff, Bool.and_eq_false_imp])
  have fin : ∀ {T : Tree} {e : Int}, normT (unfV (segO a) x).1 = T → (unfV (segO a) x).2.2 = e → ∀ {s : LSt U},
      EndsQ cfg Try.f48.ntmps Try.f48.results.toList (.tup [(true, enc .tree T), (false, [.int .i64 e])]) [] .ret s → EndsQ cfg Try.f48.ntmps Try.f48.results.toList (res48 (a, x, ())) [] .ret s := by
    intro T e h1 h2 s hs
    refine ends_eq ?_ hs
    simp only [res48]
    rw [h1, h2]
    rfl
  refine ⟨ha, fun he => fin (T := Tree.nil) (by rw [unf_nil he]; rfl) rfl (by (repeat' (first | exact trivial | exact rfl | refine And.intro ?_ ?_))), fun he => ?_⟩
  obtain ⟨u1, u2, u3⟩ := unf_root he
  have hx := okX_at ha 0 0
  have hl := val_lift hx
  rw [← hy2] at hl
  have hok : okR y2 := by rw [hy2]; exact okR_lift ha hx
  have hg := val_good hok (hl.2 u2)
  rw [← hl.1, ← hy3] at u3
  rw [← hy3] at hg
  refine ⟨ha, fun h => absurd u1 h, fun _ => ⟨⟨hok, hl.2 u2⟩, by show mass y3 ≤ _; omega, fin (T := normT y3) (by rw [u3]) he (by (repeat' (first | exact trivial | exact rfl | refine And.intro ?_ ?_)))⟩⟩

theorem aw_ok11 : okSeg [[4294967296, 0]] := by
  refine ⟨by decide, fun w hw => ?_⟩
  simp only [List.mem_singleton] at hw
  subst hw
  refine ⟨by decide, fun x hx => ?_⟩
  simp only [List.mem_cons, List.not_mem_nil, or_false] at hx
  omega

theorem c51 : Contract Try.prog cfg 51 spec51 := by
  refine make51 c20 c48 ?_
  rintro  _ hp
  refine vc51 _ ?_
  rintro y1 hy1
  have e1 : unfV (segO (some (Arena.mk [[4294967296, 0]] 0 0 0))) (Limits.mk 1 2 0 0) = (⟨1, [0], []⟩, 2, 0) := by rfl
  rw [e1] at hy1
  subst hy1
  have e2 : normT ⟨1, [0], []⟩ = ⟨1, [], []⟩ := by rfl
  dsimp only
  rw [e2]
  (simp only [vcT, bif_tl, bif_fr, bif_tlf, bif_frf, Bool.not_eq_true', Bool.not_eq_false', decide_eq_true_eq, decide_eq_false_iff_not, beq_iff_eq, beq_eq_false_iff_ne, bne_iff_ne, ne_eq, bne_eq_false_iff_eq, Bool.or_eq_true, Bool.and_eq_true, Bool.or_eq_false_iff, Bool.and_eq_false_imp])
  exact ⟨aw_ok11, aw_ok11, fun _ => by simp [InR], ends_bool rfl rfl⟩

end Go.AM.Ythokdjgpdonhgaa

namespace Go.AM.Ythokdjgpdonhgaa
open Go.AM Go.Proofs

def args15 : ArgL (List (List Int) × List (List Int) × Limits × Unit) := (.cons (aSl .words) (.cons (aSl .words) (.cons (aEl .limits) .nil)))
def pre15 (a : List (List Int) × List (List Int) × Limits × Unit) : Prop := okSeg a.1 ∧ okSeg a.2.1 ∧ a.1.length ≤ 1048576 ∧ a.2.1.length ≤ 1048576
noncomputable def res15 (a : List (List Int) × List (List Int) × Limits × Unit) : V U := .c (.bool true)
noncomputable def spec15 : Fs U := fs args15 (fun a => [pre15 a]) res15

noncomputable def know15 : List (FuncId × Fs U) := [(39, spec39), (20, spec20), (48, spec48), (49, spec49), (51, spec51)]
def lv15 : Lives U := fun i => match i with
  | 0 => ([(0, []), (1, []), (5, [])], [((.loc 5), [])])
  | 1 => ([(0, []), (1, []), (5, [])], [((.loc 5), [])])
  | 2 => ([(0, []), (1, []), (5, []), (7, []), (8, [])], [((.loc 5), []), ((.loc 7), [])])
  | 3 => ([(0, []), (1, []), (5, []), (7, []), (21, [])], [((.loc 5), []), ((.loc 7), [])])
  | 4 => ([(6, [])], [])
  | 5 => ([(7, []), (9, []), (10, [])], [((.loc 7), []), ((.loc 9), [])])
  | 6 => ([(6, [])], [])
  | _ => ([], [])
noncomputable abbrev A15 (p : List Nat) := awp cfg (know know15) (drawOk cfg (know know15)) Try.f15.ntmps lv15 (cd Try.f15 p)
theorem vc15 (l : List (List Int)) (more : List (List Int)) (x : Limits) (Q : AExit → LSt U → Prop) (h : ∀ y_1, y_1 = (x) → ∀ y_2, y_2 = (segO (some (Arena.mk ((([] : List (List Int)) ++ l) ++ more) 0 0 0))) → ∀ y_3, y_3 = ((lightV y_1)) → ∀ y_4, y_4 = ((normT (unfV y_2 y_3).1)) → ∀ y_5, y_5 = ((normT (unfV (segO (some (Arena.mk l 0 0 0))) y_3).1)) → ((pre39 (y_1, ())) ∧ ((pre20 (l, ())) ∧ (pre48 ((some (Arena.mk l 0 0 0)), y_3, ())) ∧ (((((((unfV (segO (some (Arena.mk l 0 0 0))) y_3).2.2) : Int) != 0) = true → (pre49 (y_5, (Tree.mk 0 ([]) ([])), ())) ∧ ((sameT y_5 (Tree.mk 0 ([]) ([]))) = true → pre51 (())) ∧ ((Tr ((sameT y_5 (Tree.mk 0 ([]) ([]))) = true))) ∧ (Q .ret (⟨[(6, .c (.bool (bif (sameT y_5 (Tree.mk 0 ([]) ([]))) then true else false)))], [], []⟩ : LSt U))) ∧ (((((unfV (segO (some (Arena.mk l 0 0 0))) y_3).2.2) : Int) != 0) = false → ((([] : List (List Int)).length + l.length) * 24 ≤ 140737488355328) ∧ (((([] : List (List Int)) ++ l).length + more.length) * 24 ≤ 140737488355328) ∧ (pre20 (((([] : List (List Int)) ++ l) ++ more), ())) ∧ (pre48 ((some (Arena.mk ((([] : List (List Int)) ++ l) ++ more) 0 0 0)), y_3, ())) ∧ ((Tr (((((unfV y_2 y_3).2.2) : Int) == 0) = true)) ∧ (Tr (((((unfV y_2 y_3).2.2) : Int) == 0) = true)) ∧ (((((unfV y_2 y_3).2.2) : Int) == 0) = true → pre49 (y_5, y_4, ())) ∧ ((Tr (((((unfV y_2 y_3).2.2) : Int) == 0) = true))) ∧ ((bif ((((unfV y_2 y_3).2.2) : Int) == 0) then (sameT y_5 y_4) else false) = true → pre51 (())) ∧ ((Tr ((bif ((((unfV y_2 y_3).2.2) : Int) == 0) then (sameT y_5 y_4) else false) = true))) ∧ (Q .ret (⟨[(6, .c (.bool (bif (bif ((((unfV y_2 y_3).2.2) : Int) == 0) then (sameT y_5 y_4) else false) then true else false)))], [], []⟩ : LSt U))))))))) :
    A15 [] (⟨[(0, .c (.slice (U := U) .words l .unk)), (1, .c (.slice (U := U) .words more .unk)), (2, .agg [.int .i64 (Limits.depth x), .int .i64 (Limits.weight x), .int .i64 (Limits.maxD x), .int .i64 (Limits.maxOut x)])], [], []⟩ : LSt U) Q :=
  Eq.mpr (by kernel_rfl) (h _ (reLimits_eq _) _ rfl _ (reLimits_eq _) _ (reTree_eq _) _ (reTree_eq _))
def Body15 (l : List (List Int)) (more : List (List Int)) (x : Limits)  : Prop := awp cfg (know (know15)) (drawOk cfg (know (know15))) Try.f15.ntmps lv15 (cd Try.f15 []) (entry (args15.can (l, more, x, ())) []) (EndsQ cfg Try.f15.ntmps Try.f15.results.toList (res15 (l, more, x, ())) [])
theorem make15 (c39 : Contract Try.prog cfg 39 spec39) (c20 : Contract Try.prog cfg 20 spec20) (c48 : Contract Try.prog cfg 48 spec48) (c49 : Contract Try.prog cfg 49 spec49) (c51 : Contract Try.prog cfg 51 spec51) (hb : ∀ (l : List (List Int)) (more : List (List Int)) (x : Limits) (_ : Unit), pre15 (l, more, x, ()) → Body15 l more x) : Contract Try.prog cfg 15 spec15 :=
  contract_flat (l := [(39, spec39), (20, spec20), (48, spec48), (49, spec49), (51, spec51)]) cfgOk rfl (⟨c39, c20, c48, c49, c51, trivial⟩) lv15 Try.func15 rfl rfl 3 (fun _ => rfl) (by decide) (fun ⟨l, more, x, _⟩ => hb l more x ())

end Go.AM.Ythokdjgpdonhgaa

namespace Go.AM

theorem segAt_app {l b : List (List Int)} {s : Int} (h0 : 0 ≤ s) (h : s < l.length) : segAt (l ++ b) s = segAt l s := by
  unfold segAt
  rw [if_neg (by omega), if_neg (by omega), List.getD_eq_getElem?_getD, List.getD_eq_getElem?_getD, List.getElem?_append_left (by omega)]

theorem hasN_in {l : List (List Int)} {s a n : Int} (h : hasN l s a n = true) : 0 ≤ s ∧ s < (l.length : Int) := by
  unfold hasN at h
  have := of_decide_eq_true h
  omega

theorem hasN_app {l b : List (List Int)} {s a n : Int} (h : hasN l s a n = true) : hasN (l ++ b) s a n = true := by
  have hi := hasN_in h
  unfold hasN at h ⊢
  have := of_decide_eq_true h
  rw [segAt_app hi.1 hi.2]
  exact decide_eq_true ⟨this.1, by rw [List.length_append]; omega, this.2.2⟩

theorem getS_app {l b : List (List Int)} {s a : Int} (h0 : 0 ≤ s) (h : s < l.length) : getS (l ++ b) s a = getS l s a := by
  unfold getS
  rw [segAt_app h0 h]

theorem insideL_app {l b : List (List Int)} {x : Loc} (h : (insideL l x).2 = 0) : insideL (l ++ b) x = insideL l x ∧ hasN l x.segment x.at_ (wordsP x.p) = true := by
  unfold insideL at h ⊢
  split at h
  · rename_i h1
    rw [if_pos h1, if_pos (hasN_app h1)]
    exact ⟨rfl, h1⟩
  · cases h

theorem nearL_app {l b : List (List Int)} {p : Ptr} {s a : Int} (h : (nearL l p s a).2 = 0) : nearL (l ++ b) p s a = nearL l p s a := by
  unfold nearL at h ⊢
  split at h
  · rename_i h1
    rw [if_pos h1, if_pos h1]
    exact (insideL_app h).1
  · rename_i h1
    exact absurd h h1

theorem doubleL_app {l b : List (List Int)} {s a : Int} (h : (doubleL l s a).2 = 0) : doubleL (l ++ b) s a = doubleL l s a := by
  unfold doubleL at h ⊢
  by_cases h1 : hasN l s a 2 = true
  · have hi := hasN_in h1
    rw [if_pos h1] at h
    rw [if_pos h1, if_pos (hasN_app h1), getS_app hi.1 hi.2, getS_app hi.1 hi.2]
    by_cases h2 : (decP (getS l s a)).kind ≠ 3 ∨ (decP (getS l s a)).double = true
    · rw [if_pos h2, if_pos h2]
    · rw [if_neg h2] at h ⊢
      rw [if_neg h2]
      by_cases h3 : shapeE (decP (getS l s (a + 1))) ≠ 0
      · rw [if_pos h3, if_pos h3]
      · rw [if_neg h3] at h ⊢
        rw [if_neg h3]
        by_cases h4 : (decP (getS l s (a + 1))).off ≠ 0
        · rw [if_pos h4, if_pos h4]
        · rw [if_neg h4] at h ⊢
          rw [if_neg h4]
          exact (insideL_app h).1
  · rw [if_neg h1] at h
    cases h

theorem follow_app {l b : List (List Int)} {s a : Int} (h : (follow l s a).2 = 0) : follow (l ++ b) s a = follow l s a := by
  unfold follow at h ⊢
  by_cases h1 : hasN l s a 1 = true
  · have hi := hasN_in h1
    rw [if_pos h1] at h
    rw [if_pos h1, if_pos (hasN_app h1), getS_app hi.1 hi.2]
    by_cases h2 : (decP (getS l s a)).kind = 0
    · rw [if_pos h2, if_pos h2]
    · rw [if_neg h2] at h ⊢
      rw [if_neg h2]
      by_cases h3 : (decP (getS l s a)).kind ≠ 3
      · rw [if_pos h3] at h ⊢
        rw [if_pos h3]
        exact nearL_app h
      · rw [if_neg h3] at h ⊢
        rw [if_neg h3]
        by_cases h4 : (decP (getS l s a)).double = true
        · rw [if_pos h4] at h ⊢
          rw [if_pos h4]
          exact doubleL_app h
        · rw [if_neg h4] at h ⊢
          rw [if_neg h4]
          by_cases h5 : hasN l (decP (getS l s a)).segment (decP (getS l s a)).off 1 = true
          · have hj := hasN_in h5
            rw [if_pos h5] at h
            rw [if_pos h5, if_pos (hasN_app h5), getS_app hj.1 hj.2]
            exact nearL_app h
          · rw [if_neg h5] at h
            cases h
  · rw [if_neg h1] at h
    cases h

theorem nearL_in {l : List (List Int)} {p : Ptr} {s a : Int} (h : (nearL l p s a).2 = 0) : 0 ≤ (nearL l p s a).1.segment ∧ (nearL l p s a).1.segment < (l.length : Int) := by
  unfold nearL at h ⊢
  split at h
  · rename_i h1
    rw [if_pos h1]
    unfold insideL at h ⊢
    split at h
    · rename_i h2
      rw [if_pos h2]
      exact hasN_in h2
    · cases h
  · rename_i h1
    exact absurd h h1

theorem follow_in {l : List (List Int)} {s a : Int} (h : (follow l s a).2 = 0) (hk : (follow l s a).1.p.kind ≠ 0) : 0 ≤ (follow l s a).1.segment ∧ (follow l s a).1.segment < (l.length : Int) := by
  unfold follow at h hk ⊢
  by_cases h1 : hasN l s a 1 = true
  · rw [if_pos h1] at h hk ⊢
    by_cases h2 : (decP (getS l s a)).kind = 0
    · rw [if_pos h2] at hk
      exact absurd rfl hk
    · rw [if_neg h2] at h hk ⊢
      by_cases h3 : (decP (getS l s a)).kind ≠ 3
      · rw [if_pos h3] at h ⊢
        exact nearL_in h
      · rw [if_neg h3] at h hk ⊢
        by_cases h4 : (decP (getS l s a)).double = true
        · rw [if_pos h4] at h hk ⊢
          unfold doubleL at h hk ⊢
          split at h
          · rename_i g1
            rw [if_pos g1] at hk ⊢
            split at h
            · cases h
            · rename_i g2
              rw [if_neg g2] at hk ⊢
              split at h
              · rename_i g3
                exact absurd h g3
              · rename_i g3
                rw [if_neg g3] at hk ⊢
                split at h
                · cases h
                · rename_i g4
                  rw [if_neg g4] at hk ⊢
                  unfold insideL at h ⊢
                  split at h
                  · rename_i g5
                    rw [if_pos g5]
                    exact hasN_in g5
                  · cases h
          · cases h
        · rw [if_neg h4] at h hk ⊢
          split at h
          · rename_i h5
            rw [if_pos h5]
            exact nearL_in h
          · cases h
  · rw [if_neg h1] at h
    cases h

theorem refAt_app {l b : List (List Int)} {s a : Int} (h : (refAt l s a).2 = 0) : refAt (l ++ b) s a = refAt l s a := by
  have hf : (follow l s a).2 = 0 := by
    unfold refAt at h
    by_cases h1 : (follow l s a).2 ≠ 0 ∨ (follow l s a).1.p.kind = 0
    · rw [if_pos h1] at h; exact h
    · exact Classical.byContradiction fun h2 => h1 (.inl h2)
  unfold refAt at h ⊢
  rw [follow_app hf]
  by_cases h1 : (follow l s a).2 ≠ 0 ∨ (follow l s a).1.p.kind = 0
  · rw [if_pos h1, if_pos h1]
  · rw [if_neg h1, if_neg h1]
    by_cases h2 : (follow l s a).1.p.kind = 1
    · rw [if_pos h2, if_pos h2]
    · rw [if_neg h2, if_neg h2]
      by_cases h3 : (follow l s a).1.p.code < 7
      · rw [if_pos h3, if_pos h3]
      · rw [if_neg h3, if_neg h3]
        have hi := follow_in hf (fun h0 => h1 (.inr h0))
        unfold compX
        rw [getS_app hi.1 hi.2]

theorem okX_in {l : List (List Int)} {x : XRef} (h : OkX l x) (h0 : x.kind ≠ 0) (h1 : x.kind ≠ 10) : 0 ≤ x.s ∧ x.s < (l.length : Int) := by
  have hk := h.kind
  by_cases e1 : x.kind = 1
  · exact hasN_in (h.one e1)
  · by_cases e9 : x.kind = 9
    · exact hasN_in (h.nine e9)
    · exact hasN_in (h.list (by omega) (by omega))

theorem wordsX_app {l b : List (List Int)} {x : XRef} (h : OkX l x) : wordsX (l ++ b) x = wordsX l x := by
  unfold wordsX
  by_cases h10 : x.kind = 10
  · rw [if_pos h10, if_pos h10]
  · rw [if_neg h10, if_neg h10]
    by_cases h1 : x.kind = 1
    · have hi := okX_in h (by omega) h10
      rw [if_pos h1, if_pos h1, segAt_app hi.1 hi.2]
    · rw [if_neg h1, if_neg h1]

theorem kidX_app {l b : List (List Int)} {x : XRef} (h : OkX l x) {i : Int} (he : (kidX l x i).2 = 0) : kidX (l ++ b) x i = kidX l x i := by
  unfold kidX at he ⊢
  by_cases h1 : i < 0 ∨ kidsX x ≤ i
  · rw [if_pos h1, if_pos h1]
  · rw [if_neg h1] at he ⊢
    rw [if_neg h1]
    by_cases h2 : x.kind = 1
    · rw [if_pos h2] at he ⊢
      rw [if_pos h2]
      exact refAt_app he
    · rw [if_neg h2] at he ⊢
      rw [if_neg h2]
      by_cases h3 : x.kind = 8
      · rw [if_pos h3] at he ⊢
        rw [if_pos h3]
        exact refAt_app he
      · rw [if_neg h3, if_neg h3]
        by_cases h4 : x.kind = 9
        · rw [if_pos h4, if_pos h4]
        · rw [if_neg h4, if_neg h4]
          have hz : ¬ (x.kind = 0 ∨ x.kind = 10) := by
            intro q
            have := h.zero q
            unfold kidsX at h1
            rw [if_neg h2] at h1
            omega
          have hi := okX_in h (fun e => hz (.inl e)) (fun e => hz (.inr e))
          rw [segAt_app hi.1 hi.2]

def App (r r' : Tree × Int × Int) : Prop := r.2.2 = 0 → r' = r
def AppM (l : List (List Int)) (m m' : XRef → Int → Tree × Int × Int) : Prop := ∀ x left, OkX l x → App (m x left) (m' x left)

theorem loopM_app {f g : Int → Int → Tree × Int × Int} (h : ∀ i left, App (f i left) (g i left)) : ∀ (n : Nat) (i left : Int) (acc : List Tree), (loopM f n i left acc).2.2 = 0 →
    loopM g n i left acc = loopM f n i left acc
  | 0, _, _, _, _ => rfl
  | n + 1, i, left, acc, h0 => by
    simp only [loopM] at h0 ⊢
    by_cases he : (f i left).2.2 = 0
    · rw [if_pos he] at h0 ⊢
      rw [h i left he, if_pos he]
      exact loopM_app h n (i + 1) (f i left).2.1 (acc ++ [(f i left).1]) h0
    · rw [if_neg he] at h0
      exact absurd h0 he

theorem kidsM_app {l b : List (List Int)} (hl : okSeg l) {m m' : XRef → Int → Tree × Int × Int} (h : AppM l m m') {x : XRef} (hx : OkX l x) (left : Int) : App (kidsM l m x left) (kidsM (l ++ b) m' x left) := by
  intro h0
  unfold kidsM at h0 ⊢
  have := loopM_app (f := fun j left => if (kidX l x j).2 = 0 then m (kidX l x j).1 left else (Tree.nil, left, (kidX l x j).2)) (g := fun j left => if (kidX (l ++ b) x j).2 = 0 then m' (kidX (l ++ b) x j).1 left else (Tree.nil, left, (kidX (l ++ b) x j).2)) (by
    intro i left hi
    by_cases he : (kidX l x i).2 = 0
    · rw [if_pos he] at hi
      rw [kidX_app hx he, if_pos he, if_pos he]
      exact h _ _ (okX_kid hl hx _) hi
    · rw [if_neg he] at hi
      exact absurd hi he) x.ptrs.toNat 0 left [] h0
  rw [this, wordsX_app hx]

theorem kidM_app {l b : List (List Int)} (hl : okSeg l) {m m' n n' : XRef → Int → Tree × Int × Int} (h : AppM l m m') (h' : AppM l n n') {x : XRef} (hx : OkX l x) (i left : Int) : App (kidM l m n x i left) (kidM (l ++ b) m' n' x i left) := by
  intro h0
  unfold kidM at h0 ⊢
  by_cases he : (kidX l x i).2 = 0
  · have hk := okX_kid hl hx i
    rw [if_pos he] at h0
    rw [kidX_app hx he, if_pos he, if_pos he]
    by_cases h9 : x.kind = 9
    · rw [if_pos h9] at h0 ⊢
      rw [if_pos h9]
      exact kidsM_app hl h' hk _ h0
    · rw [if_neg h9] at h0 ⊢
      rw [if_neg h9]
      by_cases h1 : x.kind = 1 ∨ x.kind = 8
      · rw [if_pos h1] at h0 ⊢
        rw [if_pos h1]
        exact h _ _ hk h0
      · rw [if_neg h1, if_neg h1, wordsX_app hk]
  · rw [if_neg he] at h0
    exact absurd h0 he

theorem stepM_app {l b : List (List Int)} (hl : okSeg l) {d : Nat} {m m' n n' : XRef → Int → Tree × Int × Int} (h : AppM l m m') (h' : AppM l n n') : AppM l (stepM l d m n) (stepM (l ++ b) d m' n') := by
  intro x left hx h0
  unfold stepM at h0 ⊢
  rw [wordsX_app hx]
  by_cases h1 : x.kind = 0
  · rw [if_pos h1, if_pos h1]
  · rw [if_neg h1] at h0 ⊢
    rw [if_neg h1]
    by_cases h2 : d = 0 ∨ (x.kind = 9 ∧ 0 < x.count ∧ d < 2) ∨ left < ownX x
    · rw [if_pos h2] at h0; cases h0
    · rw [if_neg h2] at h0 ⊢
      rw [if_neg h2]
      have := loopM_app (fun i left => kidM_app (b := b) hl h h' hx i left) (kidsX x).toNat 0 (left - ownX x) [] h0
      rw [this]

theorem none_app {l : List (List Int)} {m' : XRef → Int → Tree × Int × Int} : AppM l (fun _ left => (Tree.nil, left, 3)) m' := fun _ _ _ h => by cases h

theorem mean_app {l b : List (List Int)} (hl : okSeg l) : ∀ (d : Nat), AppM l (mean l d) (mean (l ++ b) d) := by
  intro d
  induction d using Nat.strongRecOn with
  | ind d ih =>
    match d with
    | 0 => exact stepM_app hl none_app none_app
    | 1 => exact stepM_app hl (ih 0 (by omega)) none_app
    | d + 2 => exact stepM_app hl (ih (d + 1) (by omega)) (ih d (by omega))

theorem unfV_app {l b : List (List Int)} (hl : okSeg l) {x : Limits} (h : (unfV l x).2.2 = 0) : unfV (l ++ b) x = unfV l x := by
  unfold unfV at h ⊢
  by_cases h1 : (refAt l 0 0).2 = 0
  · rw [if_pos h1] at h
    rw [refAt_app h1, if_pos h1, if_pos h1]
    by_cases h2 : (mean l (limV x).depth.toNat (refAt l 0 0).1 (limV x).weight).2.2 = 0
    · rw [mean_app hl _ _ _ (okX_at hl 0 0) h2]
    · rw [if_neg h2] at h
      exact absurd h h2
  · rw [if_neg h1] at h
    exact absurd h h1
end Go.AM

namespace Go.AM.Ythokdjgpdonhgaa
open Go.AM Go.Proofs

theorem c15 : Contract Try.prog cfg 15 spec15 := by
  refine make15 c39 c20 c48 c49 c51 ?_
  rintro l more x _ hp
  obtain ⟨hl, hmo, n1, n2⟩ := hp
  dsimp only at hl hmo n1 n2
  refine vc15 _ _ _ _ ?_
  rintro y1 h1 y2 h2 y3 h3 y4 h4 y5 h5
  have hA : segO (some (Arena.mk l 0 0 0)) = l := rfl
  have hB : segO (some (Arena.mk ((([] : List (List Int)) ++ l) ++ more) 0 0 0)) = l ++ more := by simp [segO]
  rw [hB] at h2
  rw [hA] at h5 ⊢
  have hlm : okSeg (l ++ more) := by
    refine ⟨by rw [List.length_append]; omega, fun w hw => ?_⟩
    rcases List.mem_append.1 hw with hw | hw
    · exact hl.2 w hw
    · exact hmo.2 w hw
  have hlm' : okSeg ((([] : List (List Int)) ++ l) ++ more) := by simpa using hlm
  subst h2
  have m5 : mass y5 ≤ 140000 := by
    rw [h5]
    by_cases he : (unfV l y3).2.2 = 0
    · exact Nat.le_trans (normT_mass _) (unfV_good hl y3 he).2.2.2.2.2
    · rw [unf_nil he]; decide
  (simp only [vcT, bif_tl, bif_fr, bif_tlf, bif_frf, Bool.not_eq_true', Bool.not_eq_false', decide_eq_true_eq, decide_eq_false_iff_not, beq_iff_eq, beq_eq_false_iff_ne, bne_iff_ne, ne_eq, bne_eq_false_iff_eq, Bool.or_eq_true, Bool.and_eq_true, Bool.or_eq_false_iff, Bool.and_eq_false_imp])
  refine ⟨trivial, hl, hl, fun he => ?_, fun he => ?_⟩
  · have e5 : y5 = ⟨0, [], []⟩ := by rw [h5, unf_nil he]; rfl
    refine ⟨by simp only [pre49]; omega, fun _ => trivial, ends_bool rfl ?_⟩
    rw [e5]
    simp [sameT]
  · have ha := unfV_app (b := more) hl he
    rw [ha] at h4 ⊢
    rw [← h5] at h4
    subst h4
    refine ⟨by simp; omega, by simp; omega, hlm', hlm', fun _ => by simp only [pre49]; omega, fun _ => trivial, ends_bool rfl ?_⟩
    simp [sameT, he]
end Go.AM.Ythokdjgpdonhgaa
