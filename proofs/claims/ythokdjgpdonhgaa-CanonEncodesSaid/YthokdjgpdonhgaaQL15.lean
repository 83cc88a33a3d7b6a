import Derived.Test.YthokdjgpdonhgaaRG07
set_option linter.unusedSimpArgs false
set_option linter.unusedVariables false
namespace Go.AM.Ythokdjgpdonhgaa
open Go.AM Go.Proofs


theorem smallK_get : ∀ {ks : List Tree} {i : Nat}, smallK ks → i < ks.length → small (ks.getD i Tree.nil)
  | t :: _, 0, h, _ => by simp only [smallK] at h; exact h.1
  | _ :: r, i + 1, h, hi => by simp only [smallK] at h; exact smallK_get (ks := r) (i := i) h.2 (by simpa using hi)

theorem massK_get : ∀ {ks : List Tree} {i : Nat}, i < ks.length → mass (ks.getD i Tree.nil) ≤ massK ks
  | t :: _, 0, _ => by simp only [massK, List.getD_cons_zero]; omega
  | t :: r, i + 1, h => by
    have := massK_get (ks := r) (i := i) (by simpa using h)
    simp only [massK, List.getD_cons_succ]
    omega

mutual
theorem shallow_range : ∀ (t : Tree) (d l : Int), -1 ≤ shallow t d l ∧ shallow t d l ≤ max l (-1)
  | .mk _ w ks, d, l => by
    simp only [shallow]
    split
    · omega
    · have := shallowK_range ks (d - 1) (l - 1 - w.length) (by omega)
      omega
theorem shallowK_range : ∀ (ks : List Tree) (d l : Int), -1 ≤ l → -1 ≤ shallowK ks d l ∧ shallowK ks d l ≤ l
  | [], d, l, h => by simp only [shallowK]; omega
  | t :: r, d, l, h => by
    simp only [shallowK]
    split
    · omega
    · have h1 := shallow_range t d l
      have h2 := shallowK_range r d (shallow t d l) h1.1
      omega
end

theorem shallowK_drop {ks : List Tree} {i : Nat} {d l : Int} (h : i < ks.length) (hl : 0 ≤ l) : shallowK (ks.drop i) d l = shallowK (ks.drop (i + 1)) d (shallow (ks.getD i Tree.nil) d l) := by
  rw [List.drop_eq_getElem_cons h]
  simp only [shallowK]
  rw [if_neg (by omega)]
  simp [List.getD, h]

theorem c70 : Contract Try.prog cfg 70 spec70 := by
  refine make70 ?_
  rintro N ⟨k, ws, ks⟩ d l _ ⟨hs, h1, h2, h3, h4⟩ hN
  simp only [small, mu70, mass] at *
  refine vc70 N _ _ _ _ ?_
  (simp only [vcS])
  (simp only [Tree.eta, Tree.kind_mk, Tree.words_mk, Tree.kids_mk])
  refine ⟨by unfold InR; omega, by unfold InR; omega, by omega, by omega, fun hc => ?_, fun hc => ?_⟩
  · have e : shallow (.mk k ws ks) d l = -1 := by
      simp only [shallow]
      rw [if_pos (by omega)]
    simp only [res70, e]
    exact ⟨⟨rfl, ⟨⟨rfl, rfl⟩, trivial⟩, trivial⟩, trivial⟩
  · have e : shallow (.mk k ws ks) d l = shallowK ks (d - 1) (l - 1 - ws.length) := by
      simp only [shallow]
      rw [if_neg (by omega)]
    simp only [res70, e]
    refine loop_rule (ι := Int × Int) (fun p => head70_0 (.mk k ws ks) d l p.1 p.2) (fun p => 0 ≤ p.2 ∧ p.2 ≤ ks.length ∧ -1 ≤ p.1 ∧ p.1 ≤ l ∧ shallowK (ks.drop p.2.toNat) (d - 1) p.1 = shallowK ks (d - 1) (l - 1 - ws.length)) (fun p => ((ks.length : Int) - p.2).toNat) (l - 1 - ws.length, 0) rfl ⟨by omega, by omega, by omega, by omega, by simp⟩ ?_
    rintro ⟨l', i⟩ ⟨h5, h6, h7, h8, h9⟩
    dsimp only at *
    refine vc70_l0 N _ _ _ _ _ _ _ ?_
    (simp only [vcS])
    (simp only [Tree.eta, Tree.kind_mk, Tree.words_mk, Tree.kids_mk])
    refine ⟨by omega, by omega, fun hc => ?_, fun hc => ?_⟩
    · have hi : i.toNat < ks.length := by omega
      have hr := shallow_range (ks.getD i.toNat Tree.nil) (d - 1) l'
      have hn := massK_get hi
      have hd := shallowK_drop (d := d - 1) hi hc.2
      refine ⟨by omega, by unfold InR; omega, ⟨smallK_get hs.2.2 hi, by dsimp only; omega, by dsimp only; omega, by dsimp only; omega, by dsimp only; omega⟩, by simp only [mu70]; omega, by unfold InR; omega, ⟨(shallow (ks.getD i.toNat Tree.nil) (d - 1) l', i + 1), rfl, ⟨by dsimp only; omega, by dsimp only; omega, by dsimp only; omega, by dsimp only; omega, ?_⟩, by dsimp only; omega⟩⟩
      dsimp only
      rw [← h9, hd]
      congr 2
      omega
    · have e : shallowK ks (d - 1) (l - 1 - ws.length) = l' := by
        rw [← h9]
        by_cases hi : i < ks.length
        · rw [List.drop_eq_getElem_cons (by omega)]
          simp only [shallowK]
          rw [if_pos (by omega)]
        · rw [List.drop_eq_nil_of_le (by omega)]
          simp only [shallowK]
      rw [e]
      exact ⟨⟨rfl, ⟨⟨rfl, rfl⟩, trivial⟩, trivial⟩, trivial⟩

theorem c33 : Contract Try.prog cfg 33 spec33 := by
  refine make33 c70 ?_
  intro t _ hp
  refine vc33 _ _ ?_
  (simp only [Tree.eta, Tree.kind_mk, Tree.words_mk, Tree.kids_mk])
  refine ⟨⟨hp, by dsimp only; omega, by dsimp only; omega, by dsimp only; omega, by dsimp only; omega⟩, ?_⟩
  exact ⟨⟨rfl, ⟨rfl, trivial⟩, trivial⟩, trivial⟩

theorem c100 : Contract Try.prog cfg 100 spec100 := by
  refine make100 ?_
  intro t i _ hp
  refine vc100 _ _ _ ?_
  (simp only [vcS])
  (repeat (refine And.intro (by first | omega | (unfold InR; omega) | (dsimp only; omega)) ?_))
  refine ⟨fun hc => ?_, fun hc => ⟨by omega, ?_⟩⟩
  · have e : wordAt t i = 0 := by
      unfold wordAt
      split
      · rfl
      · rw [List.getD, List.getElem?_eq_none (by omega)]
        rfl
    simp only [res100, e]
    exact ⟨⟨rfl, ⟨⟨rfl, rfl⟩, trivial⟩, trivial⟩, trivial⟩
  · have e : wordAt t i = t.words.getD i.toNat 0 := by
      unfold wordAt
      rw [if_neg (by omega)]
    simp only [res100, e]
    exact ⟨⟨rfl, ⟨⟨rfl, rfl⟩, trivial⟩, trivial⟩, trivial⟩

theorem massK_len : ∀ (ks : List Tree), ks.length ≤ massK ks
  | [] => by simp [massK]
  | t :: r => by
    have := massK_len r
    have : 1 ≤ mass t := by cases t; simp only [mass]; omega
    simp only [massK, List.length_cons]
    omega

theorem trim_zero : ∀ (l : List Int), trim (l ++ [0]) = trim l
  | [] => rfl
  | x :: r => by
    show (match trim (r ++ [0]) with | [] => if x = 0 then [] else [x] | y :: s => x :: y :: s) = _
    rw [trim_zero r]
    rfl

theorem trim_ne {x : Int} (hx : x ≠ 0) : ∀ (l : List Int), trim (l ++ [x]) = l ++ [x]
  | [] => by simp [trim, hx]
  | y :: r => by
    show (match trim (r ++ [x]) with | [] => if y = 0 then [] else [y] | z :: s => y :: z :: s) = _
    rw [trim_ne hx r]
    cases r <;> rfl

theorem take_last {l : List Int} {i : Int} (h0 : 0 < i) (hi : i ≤ l.length) : l.take i.toNat = l.take (i - 1).toNat ++ [l.getD (i - 1).toNat 0] := by
  have e : i.toNat = (i - 1).toNat + 1 := by omega
  rw [e, List.take_add_one]
  simp only [List.getD, List.getElem?_eq_getElem (show (i - 1).toNat < l.length by omega), Option.toList, Option.getD_some]

theorem c80 : Contract Try.prog cfg 80 spec80 := by
  refine make80 ?_
  intro l _ hp
  simp only [pre80] at hp
  refine vc80 _ _ ?_
  refine loop_rule (ι := Int) (fun p => head80_0 l p) (fun p => 0 ≤ p ∧ p ≤ l.length ∧ trim (l.take p.toNat) = trim l) (fun p => p.toNat) (l.length : Int) rfl ⟨by omega, by omega, by simp⟩ ?_
  rintro i ⟨h1, h2, h3⟩
  refine vc80_l0 _ _ _ _ ?_
  (simp only [vcS])
  refine ⟨id, fun h => by unfold InR; omega, id, id, fun h => by omega, id, id, id, fun hc => ⟨by unfold InR; omega, i - 1, rfl, ⟨by omega, by omega, ?_⟩, by omega⟩, fun hc => ⟨by omega, ?_, ?_⟩⟩
  · rw [take_last hc.1 h2, hc.2, trim_zero] at h3
    exact h3
  · simp only [List.length_nil, List.length_take]
    omega
  · have e : trim l = [] ++ l.take i.toNat := by
      rw [← h3]
      by_cases h0 : 0 < i
      · rw [take_last h0 h2, trim_ne (by rcases hc with h | h; exact absurd h0 h; exact h)]
        rfl
      · have : i.toNat = 0 := by omega
        rw [this]
        rfl
    simp only [res80, e]
    exact ⟨⟨rfl, ⟨⟨rfl, trivial⟩, trivial⟩, trivial⟩, trivial⟩

theorem trim_len : ∀ (l : List Int), (trim l).length ≤ l.length
  | [] => by simp [trim]
  | x :: r => by
    have := trim_len r
    simp only [trim]
    split
    · split <;> simp
    · rename_i h
      rw [h] at this
      simp at *
      omega

theorem trimK_mass : ∀ (l : List Tree), massK (trimK l) ≤ massK l
  | [] => by simp [trimK]
  | x :: r => by
    have := trimK_mass r
    simp only [trimK]
    split
    · split
      · simp [massK]
      · simp [massK]
    · rename_i h
      rw [h] at this
      simp only [massK] at *
      omega

mutual
theorem normT_mass : ∀ (t : Tree), mass (normT t) ≤ mass t
  | .mk k w ks => by
    have h1 := normK_mass ks
    have h2 := trim_len w
    have h3 := trimK_mass (normK ks)
    simp only [normT]
    split
    · simp only [Tree.nil, mass, massK, List.length_nil]; omega
    · split
      · simp only [mass]; omega
      · simp only [mass]; omega
theorem normK_mass : ∀ (ks : List Tree), massK (normK ks) ≤ massK ks
  | [] => by simp [normK]
  | t :: r => by
    have h1 := normT_mass t
    have h2 := normK_mass r
    simp only [normK, massK]
    omega
end

theorem normK_app : ∀ (l : List Tree) (x : Tree), normK (l ++ [x]) = normK l ++ [normT x]
  | [], x => rfl
  | y :: r, x => by simp only [List.cons_append, normK, normK_app r x]

theorem normK_len : ∀ (l : List Tree), (normK l).length = l.length
  | [] => rfl
  | y :: r => by simp only [normK, List.length_cons, normK_len r]

theorem trimK_zero {x : Tree} (hx : x.kind = 0) : ∀ (l : List Tree), trimK (l ++ [x]) = trimK l
  | [] => by simp [trimK, hx]
  | y :: r => by
    show (match trimK (r ++ [x]) with | [] => if y.kind = 0 then [] else [y] | z :: s => y :: z :: s) = _
    rw [trimK_zero hx r]
    rfl

theorem trimK_ne {x : Tree} (hx : x.kind ≠ 0) : ∀ (l : List Tree), trimK (l ++ [x]) = l ++ [x]
  | [] => by simp [trimK, hx]
  | y :: r => by
    show (match trimK (r ++ [x]) with | [] => if y.kind = 0 then [] else [y] | z :: s => y :: z :: s) = _
    rw [trimK_ne hx r]
    cases r <;> rfl

theorem takeT_next {l : List Tree} {i : Int} (h0 : 0 ≤ i) (hi : i < l.length) : l.take (i + 1).toNat = l.take i.toNat ++ [l.getD i.toNat Tree.nil] := by
  have e : (i + 1).toNat = i.toNat + 1 := by omega
  rw [e, List.take_add_one]
  simp only [List.getD, List.getElem?_eq_getElem (show i.toNat < l.length by omega), Option.toList, Option.getD_some]

theorem c50 : Contract Try.prog cfg 50 spec50 := by
  refine make50 c80 ?_
  rintro N ⟨k, ws, ks⟩ _ hp hN
  have hlen := massK_len ks
  simp only [pre50, mu50, mass] at hp hN
  refine vc50 N _ _ ?_
  (simp only [vcS])
  (simp only [Tree.eta, Tree.kind_mk, Tree.words_mk, Tree.kids_mk])
  refine ⟨fun hc => ?_, fun hc0 => ?_⟩
  · have e : normT (.mk k ws ks) = Tree.nil := by simp [normT, hc]
    simp only [res50, e]
    exact ⟨⟨rfl, ⟨⟨rfl, rfl⟩, ⟨rfl, ⟨rfl, trivial⟩⟩⟩, trivial⟩, trivial⟩
  · refine loop_rule (ι := Int × Int × List Tree) (fun p => head50_0 (.mk k ws ks) p.1 p.2.1 p.2.2) (fun p => 0 ≤ p.2.1 ∧ p.2.1 ≤ ks.length ∧ 0 ≤ p.1 ∧ p.1 ≤ p.2.1 ∧ p.2.2 = normK (ks.take p.2.1.toNat) ∧ trimK (normK (ks.take p.2.1.toNat)) = p.2.2.take p.1.toNat) (fun p => ((ks.length : Int) - p.2.1).toNat) (0, 0, []) rfl ⟨by dsimp only; omega, by dsimp only; omega, by dsimp only; omega, by dsimp only; omega, rfl, rfl⟩ ?_
    rintro ⟨last, i, l⟩ ⟨h1, h2, h3, h4, h5, h6⟩
    dsimp only at *
    have hl : l.length = i.toNat := by rw [h5, normK_len, List.length_take]; omega
    refine vc50_l0 N _ _ _ _ _ _ ?_
    (simp only [vcS])
    (simp only [Tree.eta, Tree.kind_mk, Tree.words_mk, Tree.kids_mk])
    refine ⟨fun hc => ?_, fun hc => ⟨fun h1 => ⟨?_, by omega, ?_⟩, fun hk => ⟨?_, ?_⟩⟩⟩
    · have hm := massK_get (ks := ks) (i := i.toNat) (by omega)
      have hnx : normK (ks.take (i + 1).toNat) = l ++ [normT (ks.getD i.toNat Tree.nil)] := by rw [takeT_next h1 hc, normK_app, h5]
      refine ⟨by omega, by simp only [pre50]; omega, by simp only [mu50]; omega, by simp only [List.length_cons, List.length_nil]; omega, fun hk => ⟨by unfold InR; omega, by unfold InR; omega, (i + 1, i + 1, _), rfl, ⟨by dsimp only; omega, by dsimp only; omega, by dsimp only; omega, by dsimp only; omega, hnx.symm, ?_⟩, by dsimp only; omega⟩, fun hk => ⟨by unfold InR; omega, (last, i + 1, _), rfl, ⟨by dsimp only; omega, by dsimp only; omega, by dsimp only; omega, by dsimp only; omega, hnx.symm, ?_⟩, by dsimp only; omega⟩⟩
      · dsimp only
        rw [hnx, trimK_ne hk, List.take_of_length_le (by simp; omega)]
      · dsimp only
        rw [hnx, trimK_zero hk, List.take_append_of_le_length (by omega), ← h6, h5]
    · simp only [pre80]; omega
    · have hi : ks.take i.toNat = ks := List.take_of_length_le (by omega)
      rw [hi] at h5 h6
      have e : normT (.mk k ws ks) = .mk 1 (trim ws) (l.take last.toNat) := by
        subst h1
        simp only [normT, ← h6]
        rfl
      simp only [res50, e]
      exact ⟨⟨rfl, ⟨⟨rfl, rfl⟩, ⟨rfl, trivial⟩, ⟨rfl, trivial⟩, trivial⟩, trivial⟩, trivial⟩
    · simp only [List.length_nil]; omega
    · have hi : ks.take i.toNat = ks := List.take_of_length_le (by omega)
      rw [hi] at h5
      have e : normT (.mk k ws ks) = .mk k ([] ++ ws) l := by
        simp only [normT, if_neg hc0, if_neg hk, h5]
        rfl
      simp only [res50, e]
      exact ⟨⟨rfl, ⟨⟨rfl, rfl⟩, ⟨rfl, trivial⟩, ⟨rfl, trivial⟩, trivial⟩, trivial⟩, trivial⟩


theorem last_eq {l : List Int} (h0 : 0 < (l.length : Int)) : l = l.take ((l.length : Int) - 1).toNat ++ [l.getD ((l.length : Int) - 1).toNat 0] := by
  have := take_last h0 (Int.le_refl _)
  rw [List.take_of_length_le (by omega)] at this
  exact this

theorem lastT_eq {l : List Tree} (h0 : 0 < (l.length : Int)) : l = l.take ((l.length : Int) - 1).toNat ++ [l.getD ((l.length : Int) - 1).toNat Tree.nil] := by
  have := takeT_next (l := l) (i := (l.length : Int) - 1) (by omega) (by omega)
  rw [List.take_of_length_le (by omega)] at this
  exact this

theorem trim_step {l : List Int} (h0 : 0 < (l.length : Int)) (hz : l.getD ((l.length : Int) - 1).toNat 0 = 0) : trim (l.take ((l.length : Int) - 1).toNat) = trim l := by
  have e := trim_zero (l.take ((l.length : Int) - 1).toNat)
  have h := last_eq h0
  rw [hz] at h
  rw [← h] at e
  exact e.symm

theorem trim_done {l : List Int} (h : ¬ 0 < (l.length : Int) ∨ ¬ l.getD ((l.length : Int) - 1).toNat 0 = 0) : trim l = l := by
  by_cases h0 : 0 < (l.length : Int)
  · have e := trim_ne (x := l.getD ((l.length : Int) - 1).toNat 0) (by rcases h with h | h; exact absurd h0 h; exact h) (l.take ((l.length : Int) - 1).toNat)
    rw [← last_eq h0] at e
    exact e
  · have : l = [] := List.eq_nil_of_length_eq_zero (by omega)
    subst this
    rfl

theorem trimK_step {l : List Tree} (h0 : 0 < (l.length : Int)) (hz : (l.getD ((l.length : Int) - 1).toNat Tree.nil).kind = 0) : trimK (l.take ((l.length : Int) - 1).toNat) = trimK l := by
  have e := trimK_zero hz (l.take ((l.length : Int) - 1).toNat)
  rw [← lastT_eq h0] at e
  exact e.symm

theorem trimK_done {l : List Tree} (h : ¬ 0 < (l.length : Int) ∨ ¬ (l.getD ((l.length : Int) - 1).toNat Tree.nil).kind = 0) : trimK l = l := by
  by_cases h0 : 0 < (l.length : Int)
  · have e := trimK_ne (x := l.getD ((l.length : Int) - 1).toNat Tree.nil) (by rcases h with h | h; exact absurd h0 h; exact h) (l.take ((l.length : Int) - 1).toNat)
    rw [← lastT_eq h0] at e
    exact e
  · have : l = [] := List.eq_nil_of_length_eq_zero (by omega)
    subst this
    rfl

theorem c72 : Contract Try.prog cfg 72 spec72 := by
  refine make72 c60 ?_
  rintro N ⟨k, ws, ks⟩ _ hp hN
  have hlen := massK_len ks
  simp only [pre72, mu72, mass] at hp hN
  refine vc72 N _ _ ?_
  (simp only [vcS])
  (simp only [Tree.eta, Tree.kind_mk, Tree.words_mk, Tree.kids_mk])
  refine ⟨fun hc => ?_, fun hc0 => ⟨by simp only [pre60]; omega, ?_⟩⟩
  · have e : normT (.mk k ws ks) = Tree.nil := by simp [normT, hc]
    simp only [res72, e]
    exact ⟨⟨rfl, ⟨⟨rfl, rfl⟩, ⟨rfl, ⟨rfl, trivial⟩⟩⟩, trivial⟩, trivial⟩
  · refine loop_rule (ι := Int × List Tree) (fun p => head72_0 (.mk k ws ks) p.1 p.2) (fun p => 0 ≤ p.1 ∧ p.1 ≤ ks.length ∧ p.2 = normK (ks.take p.1.toNat)) (fun p => ((ks.length : Int) - p.1).toNat) (0, []) rfl ⟨by dsimp only; omega, by dsimp only; omega, rfl⟩ ?_
    rintro ⟨i, l⟩ ⟨h1, h2, h5⟩
    dsimp only at *
    have hl : l.length = i.toNat := by rw [h5, normK_len, List.length_take]; omega
    refine vc72_l0 N _ _ _ _ _ ?_
    (simp only [vcS])
    (simp only [Tree.eta, Tree.kind_mk, Tree.words_mk, Tree.kids_mk])
    refine ⟨fun hc => ?_, fun hc => ⟨fun hk => ?_, fun hk => ?_⟩⟩
    · have hm := massK_get (ks := ks) (i := i.toNat) (by omega)
      have hnx : normK (ks.take (i + 1).toNat) = l ++ [normT (ks.getD i.toNat Tree.nil)] := by rw [takeT_next h1 hc, normK_app, h5]
      exact ⟨by omega, by simp only [pre72]; omega, by simp only [mu72]; omega, by simp only [List.length_cons, List.length_nil]; omega, by unfold InR; omega, (i + 1, _), rfl, ⟨by dsimp only; omega, by dsimp only; omega, hnx.symm⟩, by dsimp only; omega⟩
    · have hi : ks.take i.toNat = ks := List.take_of_length_le (by omega)
      rw [hi] at h5
      refine loop_rule (ι := List Int) (fun p => head72_1 (.mk k ws ks) l p) (fun p => p.length ≤ ws.length ∧ trim p = trim ws) (fun p => p.length) ws rfl ⟨by omega, rfl⟩ ?_
      rintro w ⟨h6, h7⟩
      refine vc72_l1 N _ _ _ _ _ ?_
      (simp only [vcS])
      refine ⟨id, id, id, id, fun h => by unfold InR; omega, id, id, fun h => by omega, id, id, id, fun hc => ⟨by unfold InR; omega, by omega, _, rfl, ⟨by rw [List.length_take]; omega, ?_⟩, by rw [List.length_take]; omega⟩, fun hc => ?_⟩
      · rw [trim_step hc.1 hc.2, h7]
      · have hw : w = trim ws := by rw [← h7, trim_done hc]
        refine loop_rule (ι := List Tree) (fun p => head72_2 (.mk k ws ks) w p) (fun p => p.length ≤ l.length ∧ trimK p = trimK l) (fun p => p.length) l rfl ⟨by omega, rfl⟩ ?_
        rintro q ⟨h8, h9⟩
        refine vc72_l2 N _ _ _ _ _ ?_
        (simp only [vcS])
        refine ⟨id, id, id, id, fun h => by unfold InR; omega, id, id, fun h => by omega, id, id, id, id, fun hc => ⟨by unfold InR; omega, by omega, _, rfl, ⟨by rw [List.length_take]; omega, ?_⟩, by rw [List.length_take]; omega⟩, fun hc => ?_⟩
        · rw [trimK_step hc.1 hc.2, h9]
        · have hq : q = trimK (normK ks) := by rw [← h5, ← h9, trimK_done hc]
          have e : normT (.mk k ws ks) = .mk k w q := by
            subst hk
            simp only [normT, hw, hq]
            rfl
          simp only [res72, e]
          exact ⟨⟨rfl, ⟨⟨rfl, rfl⟩, ⟨rfl, trivial⟩, ⟨rfl, trivial⟩, trivial⟩, trivial⟩, trivial⟩
    · have hi : ks.take i.toNat = ks := List.take_of_length_le (by omega)
      rw [hi] at h5
      have e : normT (.mk k ws ks) = .mk k ws l := by simp only [normT, if_neg hc0, if_neg hk, h5]
      simp only [res72, e]
      exact ⟨⟨rfl, ⟨⟨rfl, rfl⟩, ⟨rfl, trivial⟩, ⟨rfl, trivial⟩, trivial⟩, trivial⟩, trivial⟩

end Go.AM.Ythokdjgpdonhgaa

namespace Go.AM.Ythokdjgpdonhgaa
open Go.AM Go.Proofs

def frW : List Tree → Nat
  | [] => 0
  | t :: r => max t.words.length (frW r)
def frK : List Tree → Nat
  | [] => 0
  | t :: r => max t.kids.length (frK r)

mutual
def sizeN : Tree → Nat
  | .mk k w ks =>
    if k = 1 then w.length + ks.length + sizeK ks
    else if k = 8 then ks.length + sizeK ks
    else if k = 9 then 1 + ks.length * (frW ks + frK ks) + sizeR ks
    else if 2 ≤ k ∧ k ≤ 7 then (roomW (k - 2) ks.length).toNat
    else sizeK ks
def sizeK : List Tree → Nat
  | [] => 0
  | t :: r => sizeN t + sizeK r
def sizeR : List Tree → Nat
  | [] => 0
  | .mk _ _ ks :: r => sizeK ks + sizeR r
end

def ptrP (a to kind up : Int) : Int := 4 * ((to - a - 1) % 1073741824) + kind + 4294967296 * up
def headP (a to : Int) : Tree → Int
  | .mk k w ks =>
    if k = 0 then 0
    else if k = 1 then ptrP a (if w.length + ks.length = 0 then a else to) 0 (w.length + 65536 * ks.length)
    else if k = 8 then ptrP a to 1 (6 + 8 * ks.length)
    else if k = 9 then ptrP a to 1 (7 + 8 * (ks.length * (frW ks + frK ks) : Nat))
    else ptrP a to 1 (k - 2 + 8 * ks.length)
def tagP (n fw fk : Nat) : Int := 4 * n + 4294967296 * (fw + 65536 * fk)
def numsP (ks : List Tree) : List Int := ks.map fun t => t.words.getD 0 0

mutual
def blkP : Tree → Int → List Int
  | .mk k w ks, to =>
    if k = 0 then []
    else if k = 1 then w ++ ((kidsP ks (to + w.length) (to + w.length + ks.length)).1 ++ (kidsP ks (to + w.length) (to + w.length + ks.length)).2)
    else if k = 8 then (kidsP ks to (to + ks.length)).1 ++ (kidsP ks to (to + ks.length)).2
    else if k = 9 then tagP ks.length (frW ks) (frK ks) :: ((rowsP (frW ks) (frK ks) ks (to + 1) (to + 1 + (ks.length * (frW ks + frK ks) : Nat))).1 ++ (rowsP (frW ks) (frK ks) ks (to + 1) (to + 1 + (ks.length * (frW ks + frK ks) : Nat))).2)
    else putR (k - 2) (numsP ks)
def kidsP : List Tree → Int → Int → List Int × List Int
  | [], _, _ => ([], [])
  | t :: r, a, to => (headP a to t :: (kidsP r (a + 1) (to + (blkP t to).length)).1, blkP t to ++ (kidsP r (a + 1) (to + (blkP t to).length)).2)
def rowsP (fw fk : Nat) : List Tree → Int → Int → List Int × List Int
  | [], _, _ => ([], [])
  | .mk _ w ks :: r, a, to =>
    (w ++ (List.replicate (fw - w.length) 0 ++ ((kidsP ks (a + fw) to).1 ++ (List.replicate (fk - ks.length) 0 ++ (rowsP fw fk r (a + (fw + fk)) (to + (kidsP ks (a + fw) to).2.length)).1))),
      (kidsP ks (a + fw) to).2 ++ (rowsP fw fk r (a + (fw + fk)) (to + (kidsP ks (a + fw) to).2.length)).2)
end

def layP (l : List Int) (a : Int) (t : Tree) : List Int := if t.kind = 0 then l else l.set a.toNat (headP a l.length t) ++ blkP t l.length

def encP (t : Tree) (most : Int) : List Int × Bool :=
  if rightT t 64 = true ∧ t.kind ≠ 10 then
    if (sizeN (normT t) : Int) < most ∧ sizeN (normT t) < 131072 then (layP [0] 0 (normT t), true) else ([], false)
  else ([], false)

end Go.AM.Ythokdjgpdonhgaa

namespace Go.AM.Ythokdjgpdonhgaa
open Go.AM Go.Proofs

theorem kidsP_len : ∀ (ks : List Tree) (a to : Int), (kidsP ks a to).1.length = ks.length
  | [], _, _ => by rw [kidsP]; rfl
  | t :: r, a, to => by rw [kidsP, List.length_cons, List.length_cons, kidsP_len r]

theorem kidsP_snoc : ∀ (ks : List Tree) (t : Tree) (a to : Int),
    kidsP (ks ++ [t]) a to = ((kidsP ks a to).1 ++ [headP (a + ks.length) (to + (kidsP ks a to).2.length) t], (kidsP ks a to).2 ++ blkP t (to + (kidsP ks a to).2.length))
  | [], t, a, to => by simp [kidsP]
  | k :: r, t, a, to => by
    rw [List.cons_append, kidsP, kidsP_snoc r t, kidsP]
    rw [show a + 1 + (r.length : Int) = a + ((k :: r : List Tree).length : Nat) by rw [List.length_cons]; omega,
      show to + ((blkP k to).length : Int) + ((kidsP r (a + 1) (to + (blkP k to).length)).2.length : Int) = to + ((blkP k to ++ (kidsP r (a + 1) (to + (blkP k to).length)).2).length : Nat) by rw [List.length_append]; omega]
    simp only [List.cons_append, List.append_assoc]

def kidsSt (A S : List Int) (ks : List Tree) (to : Int) (i : Nat) : List Int :=
  A ++ ((kidsP (ks.take i) A.length to).1 ++ (List.replicate (ks.length - i) 0 ++ (S ++ (kidsP (ks.take i) A.length to).2)))

theorem take_snoc {ks : List Tree} {i : Nat} (h : i < ks.length) : ks.take (i + 1) = ks.take i ++ [ks.getD i Tree.nil] := by
  rw [List.getD_eq_getElem?_getD, List.getElem?_eq_getElem h, Option.getD_some]
  exact (List.take_append_getElem h).symm

theorem kidsSt_len (A S : List Int) (ks : List Tree) (to : Int) {i : Nat} (h : i ≤ ks.length) : (kidsSt A S ks to i).length = A.length + ks.length + S.length + (kidsP (ks.take i) A.length to).2.length := by
  unfold kidsSt
  simp only [List.length_append, List.length_replicate, kidsP_len, List.length_take]
  omega

theorem kids_step {A S : List Int} {ks : List Tree} {i : Nat} (h : i < ks.length) :
    layP (kidsSt A S ks (A.length + ks.length + S.length : Nat) i) (A.length + i) (ks.getD i Tree.nil) = kidsSt A S ks (A.length + ks.length + S.length : Nat) (i + 1) := by
  have hl := kidsSt_len A S ks (A.length + ks.length + S.length : Nat) (Nat.le_of_lt h)
  generalize ht : ks.getD i Tree.nil = t
  have hz : List.replicate (ks.length - i) (0 : Int) = 0 :: List.replicate (ks.length - (i + 1)) 0 := by
    rw [← List.replicate_succ]; congr 1; omega
  have htk : (ks.take i).length = i := by rw [List.length_take]; omega
  have hsn : kidsSt A S ks (A.length + ks.length + S.length : Nat) (i + 1) =
      A ++ ((kidsP (ks.take i) A.length (A.length + ks.length + S.length : Nat)).1 ++ (headP (A.length + i) (kidsSt A S ks (A.length + ks.length + S.length : Nat) i).length t ::
        (List.replicate (ks.length - (i + 1)) 0 ++ (S ++ ((kidsP (ks.take i) A.length (A.length + ks.length + S.length : Nat)).2 ++ blkP t (kidsSt A S ks (A.length + ks.length + S.length : Nat) i).length))))) := by
    rw [hl]
    conv => lhs; unfold kidsSt
    rw [take_snoc h, kidsP_snoc, ht, htk]
    simp only [List.append_assoc, List.singleton_append, Int.natCast_add]
  rw [hsn]
  have hset : (kidsSt A S ks (A.length + ks.length + S.length : Nat) i).set (A.length + i) (headP (A.length + i) (kidsSt A S ks (A.length + ks.length + S.length : Nat) i).length t) =
      A ++ ((kidsP (ks.take i) A.length (A.length + ks.length + S.length : Nat)).1 ++ (headP (A.length + i) (kidsSt A S ks (A.length + ks.length + S.length : Nat) i).length t :: (List.replicate (ks.length - (i + 1)) 0 ++ (S ++ (kidsP (ks.take i) A.length (A.length + ks.length + S.length : Nat)).2)))) := by
    generalize headP (A.length + i) (kidsSt A S ks (A.length + ks.length + S.length : Nat) i).length t = x
    unfold kidsSt
    rw [hz, List.set_append_right _ _ (by omega), List.set_append_right _ _ (by rw [kidsP_len, htk]; omega), kidsP_len, htk, show A.length + i - A.length - i = 0 by omega]
    rfl
  unfold layP
  rw [show ((A.length : Int) + (i : Int)).toNat = A.length + i by omega]
  by_cases h0 : t.kind = 0
  · rw [if_pos h0]
    have hh : headP (A.length + i) (kidsSt A S ks (A.length + ks.length + S.length : Nat) i).length t = 0 := by cases t; exact if_pos h0
    have hb : ∀ to, blkP t to = [] := by intro to; cases t; rw [blkP]; exact if_pos h0
    rw [hh, hb, List.append_nil]
    unfold kidsSt
    rw [hz]
    rfl
  · rw [if_neg h0, hset]
    simp only [List.append_assoc, List.cons_append]

theorem kidsSt_zero (A S : List Int) (ks : List Tree) (to : Int) : kidsSt A S ks to 0 = A ++ (List.replicate ks.length 0 ++ S) := by
  unfold kidsSt
  simp [kidsP]
theorem kidsSt_all (A S : List Int) (ks : List Tree) (to : Int) : kidsSt A S ks to ks.length = A ++ ((kidsP ks A.length to).1 ++ (S ++ (kidsP ks A.length to).2)) := by
  unfold kidsSt
  simp


theorem rowsP_len {fw fk : Nat} : ∀ (ks : List Tree) (a to : Int), (∀ t ∈ ks, t.words.length ≤ fw ∧ t.kids.length ≤ fk) → (rowsP fw fk ks a to).1.length = ks.length * (fw + fk)
  | [], _, _, _ => by rw [rowsP]; simp
  | .mk k w l :: r, a, to, h => by
    have h1 : w.length ≤ fw ∧ l.length ≤ fk := h _ List.mem_cons_self
    rw [rowsP]
    simp only [List.length_append, List.length_replicate, kidsP_len, List.length_cons]
    rw [rowsP_len r _ _ fun t ht => h t (List.mem_cons_of_mem _ ht), Nat.add_mul]
    omega

theorem rowsP_snoc {fw fk : Nat} : ∀ (ks : List Tree) (t : Tree) (a to : Int),
    rowsP fw fk (ks ++ [t]) a to = ((rowsP fw fk ks a to).1 ++ (t.words ++ (List.replicate (fw - t.words.length) 0 ++ ((kidsP t.kids (a + (ks.length * (fw + fk) : Nat) + fw) (to + (rowsP fw fk ks a to).2.length)).1 ++ List.replicate (fk - t.kids.length) 0))),
      (rowsP fw fk ks a to).2 ++ (kidsP t.kids (a + (ks.length * (fw + fk) : Nat) + fw) (to + (rowsP fw fk ks a to).2.length)).2)
  | [], .mk k w l, a, to => by simp [rowsP]
  | .mk k w l :: r, t, a, to => by
    rw [List.cons_append, rowsP, rowsP_snoc r t, rowsP]
    have e1 : a + ((fw : Int) + fk) + (r.length * (fw + fk) : Nat) + fw = a + (((.mk k w l :: r : List Tree).length * (fw + fk) : Nat)) + fw := by
      rw [List.length_cons, Nat.add_mul]; omega
    have e2 : to + ((kidsP l (a + fw) to).2.length : Int) + ((rowsP fw fk r (a + (fw + fk)) (to + (kidsP l (a + fw) to).2.length)).2.length : Int) =
        to + ((((kidsP l (a + fw) to).2 ++ (rowsP fw fk r (a + (fw + fk)) (to + (kidsP l (a + fw) to).2.length)).2).length : Nat) : Int) := by
      rw [List.length_append]; omega
    rw [e1, e2]
    simp only [List.append_assoc]

theorem frW_le : ∀ {ks : List Tree} {t : Tree}, t ∈ ks → t.words.length ≤ frW ks ∧ t.kids.length ≤ frK ks
  | k :: r, t, h => by
    rw [frW, frK]
    rcases List.mem_cons.1 h with rfl | h
    · omega
    · have := frW_le h; omega


theorem rightK_mem {i : Int} : ∀ {ks : List Tree} {d : Int} {t : Tree}, rightK i ks d = true → t ∈ ks → kidB i t = true ∧ rightT t d = true
  | k :: r, d, t, h, ht => by
    rw [rightK, Bool.and_eq_true, Bool.and_eq_true] at h
    rcases List.mem_cons.1 ht with rfl | ht
    · exact h.1
    · exact rightK_mem h.2 ht

structure RiT (k : Int) (w : List Int) (ks : List Tree) (d : Int) : Prop where
  kind : 0 ≤ k ∧ k ≤ 10
  nil : k = 0 → w = [] ∧ ks = []
  atom : k = 10 → w.length = 1 ∧ ks = []
  stru : k = 1 → w.length < 65536 ∧ ks.length < 65536
  list : k ≠ 1 → k ≠ 10 → w = []
  len : ks.length < 1048576
  kids : ∀ t ∈ ks, rightT t (d - 1) = true ∧ (k ≠ 1 → kidB k t = true) ∧ (k = 1 ∨ k = 8 → t.kind ≠ 10) ∧ (k = 9 → t.kind = 1)
  data : 2 ≤ k → k ≤ 7 → fitsA (k - 2) (numsP ks) = true ∧ ∀ t ∈ ks, t.kind = 10 ∧ t.kids.length = 0 ∧ t.words.length = 1

theorem riT {k : Int} {w : List Int} {ks : List Tree} {d : Int} (h : rightT (.mk k w ks) d = true) : RiT k w ks d := by
  rw [rightT] at h
  split at h
  · rename_i h0
    have := of_decide_eq_true h
    have h1 := List.length_eq_zero_iff.1 this.1
    have h2 := List.length_eq_zero_iff.1 this.2
    subst h1 h2
    exact ⟨by omega, fun _ => ⟨rfl, rfl⟩, by omega, by omega, fun _ _ => rfl, by simp, fun t ht => (by cases ht), by omega⟩
  · split at h
    · have := of_decide_eq_true h
      have h2 := List.length_eq_zero_iff.1 this.2
      subst h2
      exact ⟨by omega, by omega, fun _ => ⟨this.1, rfl⟩, by omega, by omega, by simp, fun t ht => (by cases ht), by omega⟩
    · split at h
      · cases h
      · split at h
        · rename_i h1
          rw [Bool.and_eq_true] at h
          have hw := of_decide_eq_true h.1
          refine ⟨by omega, by omega, by omega, fun _ => hw, by omega, by omega, fun t ht => ?_, by omega⟩
          have := rightK_mem h.2 ht
          refine ⟨this.2, by omega, fun _ => ?_, by omega⟩
          have hb := this.1
          unfold kidB at hb
          rw [if_neg (by omega), if_neg (by omega)] at hb
          exact of_decide_eq_true hb
        · rename_i h1
          rw [Bool.and_eq_true] at h
          have hw := of_decide_eq_true h.1
          refine ⟨by omega, by omega, by omega, by omega, fun _ _ => List.length_eq_zero_iff.1 hw.2.2.1, by omega, fun t ht => ?_, fun h2 h7 => ?_⟩
          · have := rightK_mem h.2 ht
            refine ⟨this.2, fun _ => this.1, fun h8 => ?_, fun h9 => ?_⟩
            · have hb := this.1
              unfold kidB at hb
              rw [if_neg (by omega), if_neg (by omega)] at hb
              exact of_decide_eq_true hb
            · have hb := this.1
              unfold kidB at hb
              rw [if_neg (by omega), if_pos h9] at hb
              exact of_decide_eq_true hb
          · have hk : ∀ t ∈ ks, (t.kind = 10 ∧ t.kids.length = 0 ∧ t.words.length = 1) ∧ fits (k - 2) (t.words.getD 0 0) = true := fun t ht => by
              have hb := (rightK_mem h.2 ht).1
              unfold kidB at hb
              rw [if_pos ⟨h2, h7⟩, Bool.and_eq_true] at hb
              exact ⟨of_decide_eq_true hb.1, hb.2⟩
            refine ⟨?_, fun t ht => (hk t ht).1⟩
            unfold fitsA
            rw [Bool.and_eq_true]
            refine ⟨decide_eq_true ?_, List.all_eq_true.2 fun x hx => ?_⟩
            · unfold wd; repeat' split
              all_goals omega
            · obtain ⟨t, ht, rfl⟩ := List.mem_map.1 hx
              exact (hk t ht).2

mutual
theorem blkP_len : ∀ (t : Tree) (d to : Int), rightT t d = true → t.kind ≠ 10 → (blkP t to).length = sizeN t
  | .mk k w ks, d, to, h, h10 => by
    have hr := riT h
    have h10 : k ≠ 10 := h10
    rw [blkP, sizeN]
    split
    · rename_i h0
      subst h0
      rw [if_neg (by decide), if_neg (by decide), if_neg (by decide), if_neg (by decide), (hr.nil rfl).2]
      rfl
    · rename_i h0
      split
      · rename_i h1
        rw [List.length_append, List.length_append, kidsP_len, kidsP_blk ks (d - 1) _ _ fun t ht => ⟨(hr.kids t ht).1, (hr.kids t ht).2.2.1 (.inl h1)⟩]
        omega
      · split
        · rename_i h8
          rw [List.length_append, kidsP_len, kidsP_blk ks (d - 1) _ _ fun t ht => ⟨(hr.kids t ht).1, (hr.kids t ht).2.2.1 (.inr h8)⟩]
        · split
          · rename_i h9
            rw [List.length_cons, List.length_append, rowsP_len ks _ _ fun t ht => frW_le ht, rowsP_blk (frW ks) (frK ks) ks (d - 1) _ _ fun t ht => ⟨(hr.kids t ht).1, (hr.kids t ht).2.2.2 h9⟩]
            omega
          · have hk := hr.kind
            rw [if_pos (by omega)]
            unfold putR
            rw [if_pos (hr.data (by omega) (by omega)).1, putW_len, numsP, List.length_map]
theorem kidsP_blk : ∀ (ks : List Tree) (d a to : Int), (∀ t ∈ ks, rightT t d = true ∧ t.kind ≠ 10) → (kidsP ks a to).2.length = sizeK ks
  | [], _, _, _, _ => by rw [kidsP, sizeK]; rfl
  | t :: r, d, a, to, h => by
    have h1 := h t List.mem_cons_self
    rw [kidsP, sizeK, List.length_append, blkP_len t d to h1.1 h1.2, kidsP_blk r d _ _ fun t ht => h t (List.mem_cons_of_mem _ ht)]
theorem rowsP_blk (fw fk : Nat) : ∀ (ks : List Tree) (d a to : Int), (∀ t ∈ ks, rightT t d = true ∧ t.kind = 1) → (rowsP fw fk ks a to).2.length = sizeR ks
  | [], _, _, _, _ => by rw [rowsP, sizeR]; rfl
  | .mk k w l :: r, d, a, to, h => by
    have h1 := h _ List.mem_cons_self
    have h1k : k = 1 := h1.2
    have hr := riT h1.1
    rw [rowsP, sizeR, List.length_append, kidsP_blk l (d - 1) _ _ fun t ht => ⟨(hr.kids t ht).1, (hr.kids t ht).2.2.1 (.inl h1k)⟩, rowsP_blk fw fk r d _ _ fun t ht => h t (List.mem_cons_of_mem _ ht)]
end

end Go.AM.Ythokdjgpdonhgaa

namespace Go.AM.Ythokdjgpdonhgaa
open Go.AM Go.Proofs

def zs (n : Nat) : List Int := List.replicate n 0
@[simp] theorem zs_len (n : Nat) : (zs n).length = n := by simp [zs]
theorem zs_add (n m : Nat) : zs (n + m) = zs n ++ zs m := by rw [zs, zs, zs, List.replicate_append_replicate]

def rowSt (A R : List Int) (fw fk : Nat) (ks : List Tree) (i : Nat) : List Int :=
  A ++ ((rowsP fw fk (ks.take i) A.length (A.length + ks.length * (fw + fk) : Nat)).1 ++ (R ++ (rowsP fw fk (ks.take i) A.length (A.length + ks.length * (fw + fk) : Nat)).2))
def rowA (A : List Int) (fw fk : Nat) (ks : List Tree) (i : Nat) : List Int :=
  A ++ ((rowsP fw fk (ks.take i) A.length (A.length + ks.length * (fw + fk) : Nat)).1 ++ ((ks.getD i Tree.nil).words ++ zs (fw - (ks.getD i Tree.nil).words.length)))
def rowS (A R : List Int) (fw fk : Nat) (ks : List Tree) (i : Nat) : List Int :=
  zs (fk - (ks.getD i Tree.nil).kids.length) ++ (R ++ (rowsP fw fk (ks.take i) A.length (A.length + ks.length * (fw + fk) : Nat)).2)

def Fit (fw fk : Nat) (ks : List Tree) : Prop := ∀ t ∈ ks, t.words.length ≤ fw ∧ t.kids.length ≤ fk
theorem Fit.get {fw fk : Nat} {ks : List Tree} (h : Fit fw fk ks) {i : Nat} (hi : i < ks.length) : (ks.getD i Tree.nil).words.length ≤ fw ∧ (ks.getD i Tree.nil).kids.length ≤ fk := by
  rw [List.getD_eq_getElem?_getD, List.getElem?_eq_getElem hi]
  exact h _ (List.getElem_mem hi)
theorem Fit.take {fw fk : Nat} {ks : List Tree} (h : Fit fw fk ks) (i : Nat) : Fit fw fk (ks.take i) := fun t ht => h t (List.mem_of_mem_take ht)

theorem rowA_len {A : List Int} {fw fk : Nat} {ks : List Tree} (h : Fit fw fk ks) {i : Nat} (hi : i < ks.length) : (rowA A fw fk ks i).length = A.length + i * (fw + fk) + fw := by
  have := h.get hi
  unfold rowA
  rw [List.length_append, List.length_append, List.length_append, zs_len, rowsP_len _ _ _ (h.take i), List.length_take, Nat.min_eq_left (by omega)]
  omega

theorem rowS_len {A R : List Int} {fw fk : Nat} {ks : List Tree} (h : Fit fw fk ks) {i : Nat} (hi : i < ks.length) (hR : R.length = (ks.length - (i + 1)) * (fw + fk)) :
    (rowA A fw fk ks i).length + (ks.getD i Tree.nil).kids.length + (rowS A R fw fk ks i).length = A.length + ks.length * (fw + fk) + (rowsP fw fk (ks.take i) A.length (A.length + ks.length * (fw + fk) : Nat)).2.length := by
  have := h.get hi
  have e : ks.length * (fw + fk) = i * (fw + fk) + (fw + fk) + (ks.length - (i + 1)) * (fw + fk) := by
    rw [← Nat.succ_mul, ← Nat.add_mul]; congr 1; omega
  rw [rowA_len h hi]
  unfold rowS
  rw [List.length_append, List.length_append, zs_len, hR]
  omega

theorem row_zero {A R : List Int} {fw fk : Nat} {ks : List Tree} (h : Fit fw fk ks) {i : Nat} (hi : i < ks.length) (to : Int) :
    kidsSt (rowA A fw fk ks i) (rowS A R fw fk ks i) (ks.getD i Tree.nil).kids to 0 = rowSt A ((ks.getD i Tree.nil).words ++ (zs (fw + fk - (ks.getD i Tree.nil).words.length) ++ R)) fw fk ks i := by
  have := h.get hi
  rw [kidsSt_zero]
  unfold rowA rowS rowSt
  rw [show fw + fk - (ks.getD i Tree.nil).words.length = fw - (ks.getD i Tree.nil).words.length + ((ks.getD i Tree.nil).kids.length + (fk - (ks.getD i Tree.nil).kids.length)) by omega, zs_add, zs_add]
  simp only [List.append_assoc, zs]

theorem row_all {A R : List Int} {fw fk : Nat} {ks : List Tree} (h : Fit fw fk ks) {i : Nat} (hi : i < ks.length) (hR : R.length = (ks.length - (i + 1)) * (fw + fk)) :
    kidsSt (rowA A fw fk ks i) (rowS A R fw fk ks i) (ks.getD i Tree.nil).kids ((rowA A fw fk ks i).length + (ks.getD i Tree.nil).kids.length + (rowS A R fw fk ks i).length : Nat) (ks.getD i Tree.nil).kids.length = rowSt A R fw fk ks (i + 1) := by
  rw [kidsSt_all, rowS_len h hi hR, rowA_len h hi]
  unfold rowA rowS rowSt
  rw [take_snoc hi, rowsP_snoc, List.length_take, Nat.min_eq_left (Nat.le_of_lt hi)]
  simp only [List.append_assoc, zs, Int.natCast_add]

end Go.AM.Ythokdjgpdonhgaa

namespace Go.AM.Ythokdjgpdonhgaa
open Go.AM Go.Proofs


def encW (p : Ptr) : Int :=
  if p.kind = 1 then (if (-536870912 ≤ p.off ∧ p.off < 536870912) ∧ (0 ≤ p.data ∧ p.data ≤ 65535) ∧ 0 ≤ p.ptrs ∧ p.ptrs ≤ 65535 then 4 * (p.off % 1073741824) + 4294967296 * (p.data + 65536 * p.ptrs) else 0)
  else if p.kind = 2 then (if (-536870912 ≤ p.off ∧ p.off < 536870912) ∧ (0 ≤ p.code ∧ p.code ≤ 7) ∧ 0 ≤ p.count ∧ p.count ≤ 536870911 then 4 * (p.off % 1073741824) + 1 + 4294967296 * (p.code + 8 * p.count) else 0)
  else if p.kind = 3 then (if (0 ≤ p.off ∧ p.off ≤ 536870911) ∧ 0 ≤ p.segment ∧ p.segment ≤ 4294967295 then 8 * p.off + 2 + (if p.double = true then 4 else 0) + 4294967296 * p.segment else 0)
  else 0

def eqP (p q : Ptr) : Bool := p.kind == q.kind && (p.off == q.off && (p.data == q.data && (p.ptrs == q.ptrs && (p.code == q.code && (p.count == q.count && (p.segment == q.segment && (p.double == q.double && true)))))))
theorem eqP_self (p : Ptr) : eqP p p = true := by simp [eqP]

theorem off_nxt {o : Int} (h : -536870912 ≤ o ∧ o < 536870912) : (if 536870912 ≤ o % 1073741824 then o % 1073741824 - 1073741824 else o % 1073741824) = o := by
  split <;> omega

theorem dec_struct {o d p : Int} (ho : -536870912 ≤ o ∧ o < 536870912) (hd : 0 ≤ d ∧ d < 65536) (hp : 0 ≤ p ∧ p < 65536) (hz : ¬(o = 0 ∧ d = 0 ∧ p = 0)) :
    decP (4 * (o % 1073741824) + 0 + 4294967296 * (d + 65536 * p)) = ⟨1, o, d, p, 0, 0, 0, false⟩ := by
  have e0 : (4 * (o % 1073741824) + 0 + 4294967296 * (d + 65536 * p)) / 4 % 1073741824 = o % 1073741824 := by omega
  unfold decP offP
  rw [if_neg (by omega), if_pos (by omega), e0, off_nxt ho]
  congr 1 <;> omega

theorem dec_list {o c n : Int} (ho : -536870912 ≤ o ∧ o < 536870912) (hc : 0 ≤ c ∧ c < 8) (hn : 0 ≤ n ∧ n < 536870912) :
    decP (4 * (o % 1073741824) + 1 + 4294967296 * (c + 8 * n)) = ⟨2, o, 0, 0, c, n, 0, false⟩ := by
  have e0 : (4 * (o % 1073741824) + 1 + 4294967296 * (c + 8 * n)) / 4 % 1073741824 = o % 1073741824 := by omega
  unfold decP offP
  rw [if_neg (by omega), if_neg (by omega), if_pos (by omega), e0, off_nxt ho]
  congr 1 <;> omega

def pntW (a to : Int) (p : Ptr) : Int :=
  if p.kind = 1 then ptrP a (if p.data + p.ptrs = 0 then a else to) 0 (p.data + 65536 * p.ptrs) else ptrP a to 1 (p.code + 8 * p.count)
def pntOk (p : Ptr) : Prop :=
  (p.kind = 1 ∧ (0 ≤ p.data ∧ p.data < 65536) ∧ (0 ≤ p.ptrs ∧ p.ptrs < 65536) ∧ p.code = 0 ∧ p.count = 0 ∨ p.kind = 2 ∧ p.data = 0 ∧ p.ptrs = 0 ∧ (0 ≤ p.code ∧ p.code < 8) ∧ 0 ≤ p.count ∧ p.count < 536870912) ∧ p.segment = 0 ∧ p.double = false

def pntP (a to : Int) (p : Ptr) : Ptr := ⟨p.kind, if p.kind = 1 ∧ p.data + p.ptrs = 0 then -1 else to - a - 1, p.data, p.ptrs, p.code, p.count, p.segment, p.double⟩

theorem pnt_enc {a to : Int} {p : Ptr} (h : pntOk p) (h0 : 0 ≤ a) (h1 : a < to) (h2 : to < 1000000000) (h3 : to - a < 500000000) : encW (pntP a to p) = pntW a to p ∧ decP (encW (pntP a to p)) = pntP a to p := by
  obtain ⟨k, o, d, q, c, n, s, b⟩ := p
  obtain ⟨h, hs, hb⟩ := h
  dsimp only at h hs hb
  subst hs hb
  rcases h with ⟨rfl, hd, hq, rfl, rfl⟩ | ⟨rfl, rfl, rfl, hc, hn⟩
  · have eo : (if (1 : Int) = 1 ∧ d + q = 0 then (-1 : Int) else to - a - 1) = if d + q = 0 then -1 else to - a - 1 := by simp
    have e : encW (pntP a to ⟨1, o, d, q, 0, 0, 0, false⟩) = 4 * ((if d + q = 0 then -1 else to - a - 1) % 1073741824) + 0 + 4294967296 * (d + 65536 * q) := by
      unfold encW pntP
      dsimp only
      rw [eo, if_pos rfl, if_pos ⟨by split <;> omega, by omega, by omega⟩]
      omega
    constructor
    · rw [e]
      unfold pntW ptrP
      dsimp only
      rw [if_pos rfl]
      split <;> omega
    · rw [e]
      unfold pntP
      dsimp only
      rw [eo, dec_struct (by split <;> omega) hd hq (by split <;> omega)]
  · have eo : (if (2 : Int) = 1 ∧ (0 : Int) + 0 = 0 then (-1 : Int) else to - a - 1) = to - a - 1 := if_neg (fun h => absurd h.1 (by decide))
    have e : encW (pntP a to ⟨2, o, 0, 0, c, n, 0, false⟩) = 4 * ((to - a - 1) % 1073741824) + 1 + 4294967296 * (c + 8 * n) := by
      unfold encW pntP
      dsimp only
      rw [eo, if_neg (by decide), if_pos rfl, if_pos ⟨by omega, by omega, by omega⟩]
    constructor
    · rw [e]
      unfold pntW ptrP
      dsimp only
      rw [if_neg (by decide)]
    · rw [e]
      unfold pntP
      dsimp only
      rw [eo, dec_list (by omega) hc hn]


def kidsR (l : List Int) (a : Int) (t : Tree) : List Int :=
  l.take a.toNat ++ ((kidsP t.kids a l.length).1 ++ (l.drop (a.toNat + t.kids.length) ++ (kidsP t.kids a l.length).2))
def strR (l : List Int) (a n : Int) (t : Tree) : List Int :=
  l.take a.toNat ++ (t.words ++ (zs (n.toNat - t.words.length) ++ ((kidsP t.kids (a + n) l.length).1 ++ (l.drop (a.toNat + n.toNat + t.kids.length) ++ (kidsP t.kids (a + n) l.length).2))))

def zsAt (l : List Int) (a n : Nat) : Prop := ∃ A S, l = A ++ (zs n ++ S) ∧ A.length = a

theorem zsAt_split {l : List Int} {a n : Nat} (h : zsAt l a n) : l = l.take a ++ (zs n ++ l.drop (a + n)) ∧ (l.take a).length = a ∧ a + n ≤ l.length := by
  obtain ⟨A, S, rfl, rfl⟩ := h
  refine ⟨?_, ?_, ?_⟩
  · rw [List.take_left, show A.length + n = (A ++ zs n).length by simp, ← List.append_assoc, List.drop_left, List.append_assoc]
  · rw [List.take_left]
  · simp

theorem kidsR_zero {l : List Int} {a : Nat} {t : Tree} (h : zsAt l a t.kids.length) : kidsSt (l.take a) (l.drop (a + t.kids.length)) t.kids l.length 0 = l := by
  obtain ⟨h1, h2, h3⟩ := zsAt_split h
  rw [kidsSt_zero]
  exact h1.symm
theorem kidsR_len {l : List Int} {a : Nat} {t : Tree} (h : zsAt l a t.kids.length) : (l.take a).length + t.kids.length + (l.drop (a + t.kids.length)).length = l.length := by
  obtain ⟨h1, h2, h3⟩ := zsAt_split h
  rw [h2, List.length_drop]
  omega
theorem kidsR_step {l : List Int} {a : Nat} {t : Tree} (h : zsAt l a t.kids.length) {i : Nat} (hi : i < t.kids.length) :
    layP (kidsSt (l.take a) (l.drop (a + t.kids.length)) t.kids l.length i) ((a : Int) + i) (t.kids.getD i Tree.nil) = kidsSt (l.take a) (l.drop (a + t.kids.length)) t.kids l.length (i + 1) := by
  have := kids_step (A := l.take a) (S := l.drop (a + t.kids.length)) hi
  rw [kidsR_len h, (zsAt_split h).2.1] at this
  exact this
theorem kidsR_all {l : List Int} {a : Nat} {t : Tree} (h : zsAt l a t.kids.length) : kidsSt (l.take a) (l.drop (a + t.kids.length)) t.kids l.length t.kids.length = kidsR l a t := by
  rw [kidsSt_all, (zsAt_split h).2.1]
  rfl

end Go.AM.Ythokdjgpdonhgaa

namespace Go.AM.Ythokdjgpdonhgaa
open Go.AM Go.Proofs

theorem trim_cons (x : Int) (r : List Int) : trim (x :: r) = if trim r = [] ∧ x = 0 then [] else x :: trim r := by
  simp only [trim]
  split
  · rename_i h
    simp only [h]
    split <;> simp_all
  · rename_i h
    simp [h]

theorem trimK_cons (x : Tree) (r : List Tree) : trimK (x :: r) = if trimK r = [] ∧ x.kind = 0 then [] else x :: trimK r := by
  simp only [trimK]
  split
  · rename_i h
    simp only [h]
    split <;> simp_all
  · rename_i h
    simp [h]

theorem normT_kind (t : Tree) : (normT t).kind = t.kind := by
  obtain ⟨k, w, ks⟩ := t
  simp only [normT]
  split
  · rename_i h; simp [h, Tree.nil]
  · split
    · rename_i h; simp [h]
    · rfl

end Go.AM.Ythokdjgpdonhgaa

namespace Go.AM.Ythokdjgpdonhgaa
open Go.AM Go.Proofs

theorem trim_pre : ∀ (l : List Int), ∃ r, l = trim l ++ r
  | [] => ⟨[], rfl⟩
  | x :: r => by
    obtain ⟨s, hs⟩ := trim_pre r
    simp only [trim]
    split
    · rename_i e
      split
      · exact ⟨x :: r, rfl⟩
      · exact ⟨r, rfl⟩
    · rename_i y t e
      rw [e] at hs
      exact ⟨s, by rw [hs]; rfl⟩

theorem trimK_pre : ∀ (l : List Tree), ∃ r, l = trimK l ++ r
  | [] => ⟨[], rfl⟩
  | x :: r => by
    obtain ⟨s, hs⟩ := trimK_pre r
    simp only [trimK]
    split
    · rename_i e
      split
      · exact ⟨x :: r, rfl⟩
      · exact ⟨r, rfl⟩
    · rename_i y t e
      rw [e] at hs
      exact ⟨s, by rw [hs]; rfl⟩

theorem rightK_pre {list d : Int} : ∀ (a b : List Tree), rightK list (a ++ b) d = true → rightK list a d = true
  | [], _, _ => rfl
  | t :: r, b, h => by
    simp only [List.cons_append, rightK, Bool.and_eq_true] at h ⊢
    exact ⟨h.1, rightK_pre r b h.2⟩

theorem kidB_norm {list : Int} {t : Tree} (h : kidB list t = true) : kidB list (normT t) = true := by
  unfold kidB at h ⊢
  rw [normT_kind]
  split at h
  · rename_i hl
    rw [if_pos hl]
    simp only [Bool.and_eq_true, decide_eq_true_eq] at h ⊢
    obtain ⟨⟨h1, h2, h3⟩, h4⟩ := h
    obtain ⟨k, w, ks⟩ := t
    simp only [Tree.kind_mk, Tree.kids_mk, Tree.words_mk] at h1 h2 h3 h4
    have : ks = [] := List.length_eq_zero_iff.1 h2
    subst this
    subst h1
    exact ⟨⟨rfl, rfl, h3⟩, h4⟩
  · rename_i hl
    rw [if_neg hl]
    exact h

mutual
theorem rightT_norm : ∀ (t : Tree) (d : Int), rightT t d = true → rightT (normT t) d = true
  | .mk k w ks, d, h => by
    have ih := fun (list : Int) (h : rightK list ks (d - 1) = true) => rightK_norm ks list (d - 1) h
    simp only [rightT] at h
    simp only [normT]
    by_cases h0 : k = 0
    · rw [if_pos h0]; simp [Tree.nil, rightT]
    · rw [if_neg h0] at h ⊢
      by_cases h10 : k = 10
      · subst h10
        rw [if_pos rfl] at h
        rw [if_neg (by decide)]
        simp only [decide_eq_true_eq] at h
        simp only [rightT]
        rw [if_neg (by decide), if_pos trivial, normK_len]
        simpa using h
      · rw [if_neg h10] at h
        by_cases hd : d = 0
        · rw [if_pos hd] at h; cases h
        · rw [if_neg hd] at h
          by_cases h1 : k = 1
          · subst h1
            rw [if_pos rfl] at h
            rw [if_pos rfl]
            simp only [Bool.and_eq_true, decide_eq_true_eq] at h
            simp only [rightT]
            rw [if_neg (by decide), if_neg (by decide), if_neg hd, if_pos trivial]
            simp only [Bool.and_eq_true, decide_eq_true_eq]
            obtain ⟨r1, e1⟩ := trim_pre w
            obtain ⟨r2, e2⟩ := trimK_pre (normK ks)
            have l1 := congrArg List.length e1
            have l2 := congrArg List.length e2
            rw [normK_len] at l2
            simp only [List.length_append] at l1 l2
            refine ⟨⟨by omega, by omega⟩, ?_⟩
            have := ih 1 h.2
            rw [e2] at this
            exact rightK_pre _ _ this
          · rw [if_neg h1] at h ⊢
            simp only [Bool.and_eq_true, decide_eq_true_eq] at h
            simp only [rightT]
            rw [if_neg h0, if_neg h10, if_neg hd, if_neg h1, normK_len]
            simp only [Bool.and_eq_true, decide_eq_true_eq]
            exact ⟨h.1, ih k h.2⟩
theorem rightK_norm : ∀ (l : List Tree) (list d : Int), rightK list l d = true → rightK list (normK l) d = true
  | [], _, _, _ => rfl
  | t :: r, list, d, h => by
    simp only [rightK, Bool.and_eq_true] at h
    have h1 := rightT_norm t d h.1.2
    have h2 := rightK_norm r list d h.2
    simp only [normK, rightK, Bool.and_eq_true]
    exact ⟨⟨kidB_norm h.1.1, h1⟩, h2⟩
end

theorem trim_idem (l : List Int) : trim (trim l) = trim l := by
  induction l with
  | nil => rfl
  | cons x r ih =>
    rw [trim_cons]
    split
    · rfl
    · rename_i h
      rw [trim_cons, ih, if_neg h]

theorem trimK_idem (l : List Tree) : trimK (trimK l) = trimK l := by
  induction l with
  | nil => rfl
  | cons x r ih =>
    rw [trimK_cons]
    split
    · rfl
    · rename_i h
      rw [trimK_cons, ih, if_neg h]

def Normed : List Tree → Prop
  | [] => True
  | t :: r => normT t = t ∧ Normed r

theorem Normed.eq : ∀ {l : List Tree}, Normed l → normK l = l
  | [], _ => rfl
  | t :: r, h => by simp only [normK, h.1, Normed.eq h.2]

theorem Normed.trim : ∀ {l : List Tree}, Normed l → Normed (trimK l)
  | [], _ => trivial
  | t :: r, h => by
    rw [trimK_cons]
    split
    · trivial
    · exact ⟨h.1, Normed.trim h.2⟩

mutual
theorem normT_idem : ∀ (t : Tree), normT (normT t) = normT t
  | .mk k w ks => by
    have h := normK_normed ks
    by_cases h0 : k = 0
    · simp [normT, h0, Tree.nil]
    · by_cases h1 : k = 1
      · subst h1
        simp only [normT, if_neg h0, if_true, trim_idem, h.trim.eq, trimK_idem]
      · simp only [normT, if_neg h0, if_neg h1, h.eq]
theorem normK_normed : ∀ (ks : List Tree), Normed (normK ks)
  | [] => trivial
  | t :: r => ⟨normT_idem t, normK_normed r⟩
end

theorem rngK_app : ∀ {a b : List Tree}, rngK (a ++ b) ↔ rngK a ∧ rngK b
  | [], b => by simp [rngK]
  | t :: r, b => by simp only [List.cons_append, rngK]; rw [rngK_app (a := r), and_assoc]

mutual
theorem rng_norm : ∀ (t : Tree), rng t → rng (normT t)
  | .mk k w ks, h => by
    simp only [rng] at h
    obtain ⟨h1, h2, h3⟩ := h
    have h4 := rngK_norm ks h3
    simp only [normT]
    split
    · simp only [Tree.nil, rng, rngK]
      exact ⟨by decide, by simp, trivial⟩
    · split
      · obtain ⟨r1, e1⟩ := trim_pre w
        obtain ⟨r2, e2⟩ := trimK_pre (normK ks)
        simp only [rng]
        refine ⟨by decide, fun x hx => h2 x (by rw [e1]; exact List.mem_append.2 (Or.inl hx)), ?_⟩
        rw [e2] at h4
        exact (rngK_app.1 h4).1
      · simp only [rng]
        exact ⟨h1, h2, h4⟩
theorem rngK_norm : ∀ (l : List Tree), rngK l → rngK (normK l)
  | [], _ => trivial
  | t :: r, h => by
    simp only [rngK] at h
    have h1 := rng_norm t h.1
    have h2 := rngK_norm r h.2
    simp only [normK, rngK]
    exact ⟨h1, h2⟩
end


theorem mass_pos (t : Tree) : 1 ≤ mass t := by cases t; rw [mass]; omega

theorem fr_mass : ∀ (ks : List Tree), frW ks + frK ks + ks.length ≤ massK ks
  | [] => by simp [frW, frK, massK]
  | .mk k w l :: r => by
    have := fr_mass r
    have h : l.length ≤ massK l := by
      clear this
      induction l with
      | nil => simp
      | cons t l ih => rw [massK, List.length_cons]; have := mass_pos t; omega
    rw [frW, frK, massK, mass, List.length_cons]
    show max w.length _ + max l.length _ + _ ≤ _
    omega

theorem room_le (c : Int) (n : Nat) : (roomW c n).toNat ≤ n := by
  unfold roomW
  split
  · simp
  · rcases wd_div c with e | e | e | e | e | e
    · omega
    all_goals (rw [e]; omega)

theorem sq_le {a b c : Nat} (h : a + b ≤ c) : a * a + b * b ≤ c * c := by
  have h1 : a * a + b * b ≤ (a + b) * (a + b) := by
    rw [Nat.add_mul, Nat.mul_add, Nat.mul_add]
    omega
  exact Nat.le_trans h1 (Nat.mul_le_mul h h)

mutual
theorem size_mass : ∀ (t : Tree), sizeN t ≤ mass t * mass t
  | .mk k w ks => by
    have hk := sizeK_mass ks
    have hr := sizeR_mass ks
    have hf := fr_mass ks
    have e : ∀ W M : Nat, (W + M) * (W + M) = W * W + 2 * (W * M) + M * M := by
      intro W M
      rw [Nat.add_mul, Nat.mul_add, Nat.mul_add, Nat.mul_comm M W]
      omega
    have e1 : 1 + w.length ≤ (1 + w.length) * (1 + w.length) := Nat.le_mul_of_pos_left _ (by omega)
    have e2 : massK ks ≤ (1 + w.length) * massK ks := Nat.le_mul_of_pos_left _ (by omega)
    rw [sizeN, mass, e]
    split
    · omega
    · split
      · omega
      · split
        · have h1 : ks.length * (frW ks + frK ks) ≤ ks.length * (massK ks - ks.length) := Nat.mul_le_mul_left _ (by omega)
          have h2 : ks.length * (massK ks - ks.length) + (massK ks - ks.length) * (massK ks - ks.length) ≤ massK ks * massK ks := by
            rw [← Nat.add_mul]
            exact Nat.mul_le_mul (by omega) (by omega)
          omega
        · split
          · have := room_le (k - 2) ks.length
            omega
          · omega
theorem sizeK_mass : ∀ (ks : List Tree), sizeK ks ≤ massK ks * massK ks
  | [] => by simp [sizeK]
  | t :: r => by
    rw [sizeK, massK]
    have h1 := size_mass t
    have h2 := sizeK_mass r
    have := sq_le (Nat.le_refl (mass t + massK r))
    omega
theorem sizeR_mass : ∀ (ks : List Tree), sizeR ks ≤ (massK ks - ks.length) * (massK ks - ks.length)
  | [] => by simp [sizeR]
  | .mk k w l :: r => by
    rw [sizeR, massK, mass, List.length_cons]
    have h1 := sizeK_mass l
    have h2 := sizeR_mass r
    have hf := fr_mass r
    have := sq_le (a := massK l) (b := massK r - r.length) (c := 1 + w.length + massK l + massK r - (r.length + 1)) (by omega)
    omega
end

end Go.AM.Ythokdjgpdonhgaa
