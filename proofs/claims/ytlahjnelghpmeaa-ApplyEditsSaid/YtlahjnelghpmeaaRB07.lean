import Derived.Test.YtlahjnelghpmeaaG07
set_option linter.unusedSimpArgs false
set_option linter.unusedVariables false
namespace Go.AM.Ytlahjnelghpmeaa
open Go.AM Go.Proofs


theorem smallK_get : ∀ {ks : List Tree} {i : Nat}, smallK ks → i < ks.length → small (ks.getD i Tree.nil)
  | t :: _, 0, h, _ => by simp only [smallK] at h; exact h.1
  | _ :: r, i + 1, h, hi => by simp only [smallK] at h; exact smallK_get (ks := r) (i := i) h.2 (by simpa using hi)

theorem massK_get : ∀ {ks : List Tree} {i : Nat}, i < ks.length → mass (ks.getD i Tree.nil) ≤ massK ks
  | t :: _, 0, _ => by simp only [massK, List.getD_cons_zero]; omega
  | t :: r, i + 1, h => by
    have := massK_get (ks := r) (i := i) (by simpa using h)
    simp only [massK, List.getD_cons_succ]
    omega

mutual
theorem shallow_range : ∀ (t : Tree) (d l : Int), -1 ≤ shallow t d l ∧ shallow t d l ≤ max l (-1)
  | .mk _ w ks, d, l => by
    simp only [shallow]
    split
    · omega
    · have := shallowK_range ks (d - 1) (l - 1 - w.length) (by omega)
      omega
theorem shallowK_range : ∀ (ks : List Tree) (d l : Int), -1 ≤ l → -1 ≤ shallowK ks d l ∧ shallowK ks d l ≤ l
  | [], d, l, h => by simp only [shallowK]; omega
  | t :: r, d, l, h => by
    simp only [shallowK]
    split
    · omega
    · have h1 := shallow_range t d l
      have h2 := shallowK_range r d (shallow t d l) h1.1
      omega
end

theorem shallowK_drop {ks : List Tree} {i : Nat} {d l : Int} (h : i < ks.length) (hl : 0 ≤ l) : shallowK (ks.drop i) d l = shallowK (ks.drop (i + 1)) d (shallow (ks.getD i Tree.nil) d l) := by
  rw [List.drop_eq_getElem_cons h]
  simp only [shallowK]
  rw [if_neg (by omega)]
  simp [List.getD, h]

theorem c68 : Contract Try.prog cfg 68 spec68 := by
  refine make68 ?_
  rintro N ⟨k, ws, ks⟩ d l _ ⟨hs, h1, h2, h3, h4⟩ hN
  simp only [small, mu68, mass] at *
  refine vc68 N _ _ _ _ ?_
  (simp only [vcS])
  (simp only [Tree.eta, Edit.eta, Tree.kind_mk, Tree.words_mk, Tree.kids_mk])
  refine ⟨by unfold InR; omega, by unfold InR; omega, by omega, by omega, fun hc => ?_, fun hc => ?_⟩
  · have e : shallow (.mk k ws ks) d l = -1 := by
      simp only [shallow]
      rw [if_pos (by omega)]
    simp only [res68, e]
    exact ⟨⟨rfl, ⟨⟨rfl, rfl⟩, trivial⟩, trivial⟩, trivial⟩
  · have e : shallow (.mk k ws ks) d l = shallowK ks (d - 1) (l - 1 - ws.length) := by
      simp only [shallow]
      rw [if_neg (by omega)]
    simp only [res68, e]
    refine loop_rule (ι := Int × Int) (fun p => head68_0 (.mk k ws ks) d l p.1 p.2) (fun p => 0 ≤ p.2 ∧ p.2 ≤ ks.length ∧ -1 ≤ p.1 ∧ p.1 ≤ l ∧ shallowK (ks.drop p.2.toNat) (d - 1) p.1 = shallowK ks (d - 1) (l - 1 - ws.length)) (fun p => ((ks.length : Int) - p.2).toNat) (l - 1 - ws.length, 0) rfl ⟨by omega, by omega, by omega, by omega, by simp⟩ ?_
    rintro ⟨l', i⟩ ⟨h5, h6, h7, h8, h9⟩
    dsimp only at *
    refine vc68_l0 N _ _ _ _ _ _ _ ?_
    (simp only [vcS])
    (simp only [Tree.eta, Edit.eta, Tree.kind_mk, Tree.words_mk, Tree.kids_mk])
    refine ⟨by omega, by omega, fun hc => ?_, fun hc => ?_⟩
    · have hi : i.toNat < ks.length := by omega
      have hr := shallow_range (ks.getD i.toNat Tree.nil) (d - 1) l'
      have hn := massK_get hi
      have hd := shallowK_drop (d := d - 1) hi hc.2
      refine ⟨by omega, by unfold InR; omega, ⟨smallK_get hs.2.2 hi, by dsimp only; omega, by dsimp only; omega, by dsimp only; omega, by dsimp only; omega⟩, by simp only [mu68]; omega, by unfold InR; omega, ⟨(shallow (ks.getD i.toNat Tree.nil) (d - 1) l', i + 1), rfl, ⟨by dsimp only; omega, by dsimp only; omega, by dsimp only; omega, by dsimp only; omega, ?_⟩, by dsimp only; omega⟩⟩
      dsimp only
      rw [← h9, hd]
      congr 2
      omega
    · have e : shallowK ks (d - 1) (l - 1 - ws.length) = l' := by
        rw [← h9]
        by_cases hi : i < ks.length
        · rw [List.drop_eq_getElem_cons (by omega)]
          simp only [shallowK]
          rw [if_pos (by omega)]
        · rw [List.drop_eq_nil_of_le (by omega)]
          simp only [shallowK]
      rw [e]
      exact ⟨⟨rfl, ⟨⟨rfl, rfl⟩, trivial⟩, trivial⟩, trivial⟩

theorem c29 : Contract Try.prog cfg 29 spec29 := by
  refine make29 c68 ?_
  intro t _ hp
  refine vc29 _ _ ?_
  (simp only [Tree.eta, Edit.eta, Tree.kind_mk, Tree.words_mk, Tree.kids_mk])
  refine ⟨⟨hp, by dsimp only; omega, by dsimp only; omega, by dsimp only; omega, by dsimp only; omega⟩, ?_⟩
  exact ⟨⟨rfl, ⟨rfl, trivial⟩, trivial⟩, trivial⟩

theorem c71 : Contract Try.prog cfg 71 spec71 := by
  refine make71 ?_
  intro l _ hp
  refine vc71 _ _ ?_
  simp only [pre71] at hp
  refine ⟨fun h => ?_, fun _ => ⟨by simp only [List.length_nil]; omega, ?_⟩⟩
  · subst h
    exact ⟨⟨rfl, ⟨rfl, trivial⟩, trivial⟩, trivial⟩
  · exact ⟨⟨rfl, ⟨⟨rfl, trivial⟩, trivial⟩, trivial⟩, trivial⟩

theorem drop_eq {a b : List Int} {i : Int} (hi : 0 ≤ i) (ha : i < a.length) (hb : i < b.length) : (a.drop i.toNat = b.drop i.toNat) ↔ (a.getD i.toNat 0 = b.getD i.toNat 0 ∧ a.drop (i + 1).toNat = b.drop (i + 1).toNat) := by
  have e : (i + 1).toNat = i.toNat + 1 := by omega
  rw [List.drop_eq_getElem_cons (by omega), List.drop_eq_getElem_cons (l := b) (by omega), e]
  simp only [List.cons.injEq, List.getD, List.getElem?_eq_getElem (show i.toNat < a.length by omega), List.getElem?_eq_getElem (show i.toNat < b.length by omega), Option.getD_some]

theorem c69 : Contract Try.prog cfg 69 spec69 := by
  refine make69 ?_
  intro a b _ hp
  simp only [pre69] at hp
  refine vc69 _ _ _ ?_
  (simp only [vcS])
  refine ⟨fun hc => ?_, fun hc => ?_⟩
  · have e : decide (a = b) = false := by
      simp only [decide_eq_false_iff_not]
      rintro rfl
      omega
    simp only [res69, e]
    exact ⟨⟨rfl, ⟨rfl, trivial⟩, trivial⟩, trivial⟩
  · have hl : a.length = b.length := by omega
    refine loop_rule (ι := Int) (fun p => head69_0 a b p) (fun p => 0 ≤ p ∧ p ≤ a.length ∧ (a = b ↔ a.drop p.toNat = b.drop p.toNat)) (fun p => ((a.length : Int) - p).toNat) 0 rfl ⟨by omega, by omega, by simp⟩ ?_
    rintro i ⟨h1, h2, h3⟩
    refine vc69_l0 _ _ _ _ _ ?_
    (simp only [vcS])
    refine ⟨fun hc => ⟨by omega, by omega, fun hn => ?_, fun he => ⟨by unfold InR; omega, i + 1, rfl, ⟨by omega, by omega, ?_⟩, by omega⟩⟩, fun hc => ?_⟩
    · have e : decide (a = b) = false := by
        simp only [decide_eq_false_iff_not, h3]
        rw [drop_eq h1 hc (by omega)]
        exact fun h => hn h.1
      simp only [res69, e]
      exact ⟨⟨rfl, ⟨rfl, trivial⟩, trivial⟩, trivial⟩
    · rw [h3, drop_eq h1 hc (by omega)]
      exact ⟨fun h => h.2, fun h => ⟨by simpa using he, h⟩⟩
    · have e : decide (a = b) = true := by
        simp only [decide_eq_true_eq, h3]
        rw [List.drop_eq_nil_of_le (by omega), List.drop_eq_nil_of_le (by omega)]
      simp only [res69, e]
      exact ⟨⟨rfl, ⟨rfl, trivial⟩, trivial⟩, trivial⟩

theorem c73 : Contract Try.prog cfg 73 spec73 := by
  refine make73 ?_
  intro t i _ hp
  refine vc73 _ _ _ ?_
  (simp only [vcS])
  (repeat (refine And.intro (by first | omega | (unfold InR; omega) | (dsimp only; omega)) ?_))
  refine ⟨fun hc => ?_, fun hc => ⟨by omega, ?_⟩⟩
  · have e : wordAt t i = 0 := by
      unfold wordAt
      split
      · rfl
      · rw [List.getD, List.getElem?_eq_none (by omega)]
        rfl
    simp only [res73, e]
    exact ⟨⟨rfl, ⟨⟨rfl, rfl⟩, trivial⟩, trivial⟩, trivial⟩
  · have e : wordAt t i = t.words.getD i.toNat 0 := by
      unfold wordAt
      rw [if_neg (by omega)]
    simp only [res73, e]
    exact ⟨⟨rfl, ⟨⟨rfl, rfl⟩, trivial⟩, trivial⟩, trivial⟩

theorem c74 : Contract Try.prog cfg 74 spec74 := by
  refine make74 ?_
  intro t i _ hp
  refine vc74 _ _ _ ?_
  (simp only [vcS])
  (repeat (refine And.intro (by first | omega | (unfold InR; omega) | (dsimp only; omega)) ?_))
  refine ⟨fun hc => ?_, fun hc => ⟨by omega, ?_⟩⟩
  · have e : kidAt t i = Tree.nil := by
      unfold kidAt
      split
      · rfl
      · rw [List.getD, List.getElem?_eq_none (by omega)]
        rfl
    simp only [res74, e]
    exact ⟨⟨rfl, ⟨⟨rfl, rfl⟩, ⟨rfl, ⟨rfl, trivial⟩⟩⟩, trivial⟩, trivial⟩
  · have e : kidAt t i = t.kids.getD i.toNat Tree.nil := by
      unfold kidAt
      rw [if_neg (by omega)]
    simp only [res74, e]
    exact ⟨⟨rfl, ⟨⟨rfl, rfl⟩, ⟨rfl, trivial⟩, ⟨rfl, trivial⟩, trivial⟩, trivial⟩, trivial⟩

theorem c72 : Contract Try.prog cfg 72 spec72 := by
  refine make72 ?_
  intro a b _ hp
  simp only [pre72] at hp
  refine vc72 _ _ _ ?_
  (simp only [vcS])
  refine ⟨fun hc => ?_, fun hc => ?_⟩
  · have e : decide (a = b) = false := by
      simp only [decide_eq_false_iff_not]
      rintro rfl
      omega
    simp only [res72, e]
    exact ⟨⟨rfl, ⟨rfl, trivial⟩, trivial⟩, trivial⟩
  · have hl : a.length = b.length := by omega
    refine loop_rule (ι := Int) (fun p => head72_0 a b p) (fun p => 0 ≤ p ∧ p ≤ a.length ∧ (a = b ↔ a.drop p.toNat = b.drop p.toNat)) (fun p => ((a.length : Int) - p).toNat) 0 rfl ⟨by omega, by omega, by simp⟩ ?_
    rintro i ⟨h1, h2, h3⟩
    refine vc72_l0 _ _ _ _ _ ?_
    (simp only [vcS])
    refine ⟨fun hc => ⟨by omega, by omega, fun hn => ?_, fun he => ⟨by unfold InR; omega, i + 1, rfl, ⟨by omega, by omega, ?_⟩, by omega⟩⟩, fun hc => ?_⟩
    · have e : decide (a = b) = false := by
        simp only [decide_eq_false_iff_not, h3]
        rw [drop_eq h1 hc (by omega)]
        exact fun h => hn h.1
      simp only [res72, e]
      exact ⟨⟨rfl, ⟨rfl, trivial⟩, trivial⟩, trivial⟩
    · rw [h3, drop_eq h1 hc (by omega)]
      exact ⟨fun h => h.2, fun h => ⟨by simpa using he, h⟩⟩
    · have e : decide (a = b) = true := by
        simp only [decide_eq_true_eq, h3]
        rw [List.drop_eq_nil_of_le (by omega), List.drop_eq_nil_of_le (by omega)]
      simp only [res72, e]
      exact ⟨⟨rfl, ⟨rfl, trivial⟩, trivial⟩, trivial⟩

theorem dropT_eq {a b : List Tree} {i : Int} (hi : 0 ≤ i) (ha : i < a.length) (hb : i < b.length) : (a.drop i.toNat = b.drop i.toNat) ↔ (a.getD i.toNat Tree.nil = b.getD i.toNat Tree.nil ∧ a.drop (i + 1).toNat = b.drop (i + 1).toNat) := by
  have e : (i + 1).toNat = i.toNat + 1 := by omega
  rw [List.drop_eq_getElem_cons (by omega), List.drop_eq_getElem_cons (l := b) (by omega), e]
  simp only [List.cons.injEq, List.getD, List.getElem?_eq_getElem (show i.toNat < a.length by omega), List.getElem?_eq_getElem (show i.toNat < b.length by omega), Option.getD_some]

theorem sameT_true {a b : Tree} : sameT a b = true ↔ a = b := by simp [sameT]
theorem sameT_false {a b : Tree} : sameT a b = false ↔ ¬ a = b := by simp [sameT]

theorem massK_len : ∀ (ks : List Tree), ks.length ≤ massK ks
  | [] => by simp [massK]
  | t :: r => by
    have := massK_len r
    have : 1 ≤ mass t := by cases t; simp only [mass]; omega
    simp only [massK, List.length_cons]
    omega

theorem c33 : Contract Try.prog cfg 33 spec33 := by
  refine make33 c69 ?_
  rintro N ⟨k, ws, ks⟩ ⟨k', ws', ks'⟩ _ hp hN
  have hlen := massK_len ks
  simp only [pre33, mu33, mass] at hp hN
  refine vc33 N _ _ _ ?_
  (simp only [vcS])
  (simp only [Tree.eta, Edit.eta, Tree.kind_mk, Tree.words_mk, Tree.kids_mk])
  have p69 : pre69 (ws, ws', ()) := by simp only [pre69]; omega
  refine ⟨id, id, id, id, fun _ => p69, id, id, id, id, id, id, id, id, by simp, fun hc => ?_, fun hc => ?_⟩
  · have e : sameT (.mk k ws ks) (.mk k' ws' ks') = false := by
      rw [sameT_false]
      intro h
      cases h
      simp at hc
    simp only [res33, e]
    exact ⟨⟨rfl, ⟨rfl, trivial⟩, trivial⟩, trivial⟩
  · have hc' : (k = k' ∧ ws = ws') ∧ ks.length = ks'.length := ⟨hc.1, by have := hc.2; omega⟩
    obtain ⟨⟨rfl, rfl⟩, hl⟩ := hc'
    refine loop_rule (ι := Int) (fun p => head33_0 (.mk k ws ks) (.mk k ws ks') p) (fun p => 0 ≤ p ∧ p ≤ ks.length ∧ (Tree.mk k ws ks = .mk k ws ks' ↔ ks.drop p.toNat = ks'.drop p.toNat)) (fun p => ((ks.length : Int) - p).toNat) 0 rfl ⟨by omega, by omega, by simp⟩ ?_
    rintro i ⟨h1, h2, h3⟩
    refine vc33_l0 N _ _ _ _ _ ?_
    (simp only [vcS])
    (simp only [Tree.eta, Edit.eta, Tree.kind_mk, Tree.words_mk, Tree.kids_mk])
    refine ⟨fun hc => ⟨by omega, by omega, ?_, ?_, fun hn => ?_, fun he => ⟨by unfold InR; omega, i + 1, rfl, ⟨by omega, by omega, ?_⟩, by omega⟩⟩, fun hc => ?_⟩
    · have := massK_get (ks := ks) (i := i.toNat) (by omega)
      simp only [pre33]
      omega
    · have := massK_get (ks := ks) (i := i.toNat) (by omega)
      simp only [mu33]
      omega
    · have e : sameT (.mk k ws ks) (.mk k ws ks') = false := by
        rw [sameT_false, h3, dropT_eq h1 hc (by omega)]
        rw [sameT_false] at hn
        exact fun h => hn h.1
      simp only [res33, e]
      exact ⟨⟨rfl, ⟨rfl, trivial⟩, trivial⟩, trivial⟩
    · rw [h3, dropT_eq h1 hc (by omega)]
      exact ⟨fun h => h.2, fun h => ⟨sameT_true.1 he, h⟩⟩
    · have e : sameT (.mk k ws ks) (.mk k ws ks') = true := by
        rw [sameT_true, h3]
        rw [List.drop_eq_nil_of_le (by omega), List.drop_eq_nil_of_le (by omega)]
      simp only [res33, e]
      exact ⟨⟨rfl, ⟨rfl, trivial⟩, trivial⟩, trivial⟩

theorem trim_zero : ∀ (l : List Int), trim (l ++ [0]) = trim l
  | [] => rfl
  | x :: r => by
    show (match trim (r ++ [0]) with | [] => if x = 0 then [] else [x] | y :: s => x :: y :: s) = _
    rw [trim_zero r]
    rfl

theorem trim_ne {x : Int} (hx : x ≠ 0) : ∀ (l : List Int), trim (l ++ [x]) = l ++ [x]
  | [] => by simp [trim, hx]
  | y :: r => by
    show (match trim (r ++ [x]) with | [] => if y = 0 then [] else [y] | z :: s => y :: z :: s) = _
    rw [trim_ne hx r]
    cases r <;> rfl

theorem take_last {l : List Int} {i : Int} (h0 : 0 < i) (hi : i ≤ l.length) : l.take i.toNat = l.take (i - 1).toNat ++ [l.getD (i - 1).toNat 0] := by
  have e : i.toNat = (i - 1).toNat + 1 := by omega
  rw [e, List.take_add_one]
  simp only [List.getD, List.getElem?_eq_getElem (show (i - 1).toNat < l.length by omega), Option.toList, Option.getD_some]

theorem c70 : Contract Try.prog cfg 70 spec70 := by
  refine make70 ?_
  intro l _ hp
  simp only [pre70] at hp
  refine vc70 _ _ ?_
  refine loop_rule (ι := Int) (fun p => head70_0 l p) (fun p => 0 ≤ p ∧ p ≤ l.length ∧ trim (l.take p.toNat) = trim l) (fun p => p.toNat) (l.length : Int) rfl ⟨by omega, by omega, by simp⟩ ?_
  rintro i ⟨h1, h2, h3⟩
  refine vc70_l0 _ _ _ _ ?_
  (simp only [vcS])
  refine ⟨id, fun h => by unfold InR; omega, id, id, fun h => by omega, id, id, id, fun hc => ⟨by unfold InR; omega, i - 1, rfl, ⟨by omega, by omega, ?_⟩, by omega⟩, fun hc => ⟨by omega, ?_, ?_⟩⟩
  · rw [take_last hc.1 h2, hc.2, trim_zero] at h3
    exact h3
  · simp only [List.length_nil, List.length_take]
    omega
  · have e : trim l = [] ++ l.take i.toNat := by
      rw [← h3]
      by_cases h0 : 0 < i
      · rw [take_last h0 h2, trim_ne (by rcases hc with h | h; exact absurd h0 h; exact h)]
        rfl
      · have : i.toNat = 0 := by omega
        rw [this]
        rfl
    simp only [res70, e]
    exact ⟨⟨rfl, ⟨⟨rfl, trivial⟩, trivial⟩, trivial⟩, trivial⟩

theorem trim_len : ∀ (l : List Int), (trim l).length ≤ l.length
  | [] => by simp [trim]
  | x :: r => by
    have := trim_len r
    simp only [trim]
    split
    · split <;> simp
    · rename_i h
      rw [h] at this
      simp at *
      omega

theorem trimK_mass : ∀ (l : List Tree), massK (trimK l) ≤ massK l
  | [] => by simp [trimK]
  | x :: r => by
    have := trimK_mass r
    simp only [trimK]
    split
    · split
      · simp [massK]
      · simp [massK]
    · rename_i h
      rw [h] at this
      simp only [massK] at *
      omega

mutual
theorem normT_mass : ∀ (t : Tree), mass (normT t) ≤ mass t
  | .mk k w ks => by
    have h1 := normK_mass ks
    have h2 := trim_len w
    have h3 := trimK_mass (normK ks)
    simp only [normT]
    split
    · simp only [Tree.nil, mass, massK, List.length_nil]; omega
    · split
      · simp only [mass]; omega
      · simp only [mass]; omega
theorem normK_mass : ∀ (ks : List Tree), massK (normK ks) ≤ massK ks
  | [] => by simp [normK]
  | t :: r => by
    have h1 := normT_mass t
    have h2 := normK_mass r
    simp only [normK, massK]
    omega
end

theorem normK_app : ∀ (l : List Tree) (x : Tree), normK (l ++ [x]) = normK l ++ [normT x]
  | [], x => rfl
  | y :: r, x => by simp only [List.cons_append, normK, normK_app r x]

theorem normK_len : ∀ (l : List Tree), (normK l).length = l.length
  | [] => rfl
  | y :: r => by simp only [normK, List.length_cons, normK_len r]

theorem trimK_zero {x : Tree} (hx : x.kind = 0) : ∀ (l : List Tree), trimK (l ++ [x]) = trimK l
  | [] => by simp [trimK, hx]
  | y :: r => by
    show (match trimK (r ++ [x]) with | [] => if y.kind = 0 then [] else [y] | z :: s => y :: z :: s) = _
    rw [trimK_zero hx r]
    rfl

theorem trimK_ne {x : Tree} (hx : x.kind ≠ 0) : ∀ (l : List Tree), trimK (l ++ [x]) = l ++ [x]
  | [] => by simp [trimK, hx]
  | y :: r => by
    show (match trimK (r ++ [x]) with | [] => if y.kind = 0 then [] else [y] | z :: s => y :: z :: s) = _
    rw [trimK_ne hx r]
    cases r <;> rfl

theorem takeT_next {l : List Tree} {i : Int} (h0 : 0 ≤ i) (hi : i < l.length) : l.take (i + 1).toNat = l.take i.toNat ++ [l.getD i.toNat Tree.nil] := by
  have e : (i + 1).toNat = i.toNat + 1 := by omega
  rw [e, List.take_add_one]
  simp only [List.getD, List.getElem?_eq_getElem (show i.toNat < l.length by omega), Option.toList, Option.getD_some]

theorem c31 : Contract Try.prog cfg 31 spec31 := by
  refine make31 c70 ?_
  rintro N ⟨k, ws, ks⟩ _ hp hN
  have hlen := massK_len ks
  simp only [pre31, mu31, mass] at hp hN
  refine vc31 N _ _ ?_
  (simp only [vcS])
  (simp only [Tree.eta, Edit.eta, Tree.kind_mk, Tree.words_mk, Tree.kids_mk])
  refine ⟨fun hc => ?_, fun hc0 => ?_⟩
  · have e : normT (.mk k ws ks) = Tree.nil := by simp [normT, hc]
    simp only [res31, e]
    exact ⟨⟨rfl, ⟨⟨rfl, rfl⟩, ⟨rfl, ⟨rfl, trivial⟩⟩⟩, trivial⟩, trivial⟩
  · refine loop_rule (ι := Int × Int × List Tree) (fun p => head31_0 (.mk k ws ks) p.1 p.2.1 p.2.2) (fun p => 0 ≤ p.2.1 ∧ p.2.1 ≤ ks.length ∧ 0 ≤ p.1 ∧ p.1 ≤ p.2.1 ∧ p.2.2 = normK (ks.take p.2.1.toNat) ∧ trimK (normK (ks.take p.2.1.toNat)) = p.2.2.take p.1.toNat) (fun p => ((ks.length : Int) - p.2.1).toNat) (0, 0, []) rfl ⟨by dsimp only; omega, by dsimp only; omega, by dsimp only; omega, by dsimp only; omega, rfl, rfl⟩ ?_
    rintro ⟨last, i, l⟩ ⟨h1, h2, h3, h4, h5, h6⟩
    dsimp only at *
    have hl : l.length = i.toNat := by rw [h5, normK_len, List.length_take]; omega
    refine vc31_l0 N _ _ _ _ _ _ ?_
    (simp only [vcS])
    (simp only [Tree.eta, Edit.eta, Tree.kind_mk, Tree.words_mk, Tree.kids_mk])
    refine ⟨fun hc => ?_, fun hc => ⟨fun h1 => ⟨?_, by omega, ?_⟩, fun hk => ⟨?_, ?_⟩⟩⟩
    · have hm := massK_get (ks := ks) (i := i.toNat) (by omega)
      have hnx : normK (ks.take (i + 1).toNat) = l ++ [normT (ks.getD i.toNat Tree.nil)] := by rw [takeT_next h1 hc, normK_app, h5]
      refine ⟨by omega, by simp only [pre31]; omega, by simp only [mu31]; omega, by simp only [List.length_cons, List.length_nil]; omega, fun hk => ⟨by unfold InR; omega, by unfold InR; omega, (i + 1, i + 1, _), rfl, ⟨by dsimp only; omega, by dsimp only; omega, by dsimp only; omega, by dsimp only; omega, hnx.symm, ?_⟩, by dsimp only; omega⟩, fun hk => ⟨by unfold InR; omega, (last, i + 1, _), rfl, ⟨by dsimp only; omega, by dsimp only; omega, by dsimp only; omega, by dsimp only; omega, hnx.symm, ?_⟩, by dsimp only; omega⟩⟩
      · dsimp only
        rw [hnx, trimK_ne hk, List.take_of_length_le (by simp; omega)]
      · dsimp only
        rw [hnx, trimK_zero hk, List.take_append_of_le_length (by omega), ← h6, h5]
    · simp only [pre70]; omega
    · have hi : ks.take i.toNat = ks := List.take_of_length_le (by omega)
      rw [hi] at h5 h6
      have e : normT (.mk k ws ks) = .mk 1 (trim ws) (l.take last.toNat) := by
        subst h1
        simp only [normT, ← h6]
        rfl
      simp only [res31, e]
      exact ⟨⟨rfl, ⟨⟨rfl, rfl⟩, ⟨rfl, trivial⟩, ⟨rfl, trivial⟩, trivial⟩, trivial⟩, trivial⟩
    · simp only [List.length_nil]; omega
    · have hi : ks.take i.toNat = ks := List.take_of_length_le (by omega)
      rw [hi] at h5
      have e : normT (.mk k ws ks) = .mk k ([] ++ ws) l := by
        simp only [normT, if_neg hc0, if_neg hk, h5]
        rfl
      simp only [res31, e]
      exact ⟨⟨rfl, ⟨⟨rfl, rfl⟩, ⟨rfl, trivial⟩, ⟨rfl, trivial⟩, trivial⟩, trivial⟩, trivial⟩

theorem c36 : Contract Try.prog cfg 36 spec36 := by
  refine make36 c31 c33 ?_
  intro a b _ hp
  have h1 := normT_mass a
  simp only [pre36] at hp
  refine vc36 _ _ _ ?_
  (simp only [Tree.eta, Edit.eta, Tree.kind_mk, Tree.words_mk, Tree.kids_mk])
  refine ⟨hp.1, hp.2, ?_, ?_⟩
  · simp only [pre33]; omega
  · exact ⟨⟨rfl, ⟨rfl, trivial⟩, trivial⟩, trivial⟩


theorem last_eq {l : List Int} (h0 : 0 < (l.length : Int)) : l = l.take ((l.length : Int) - 1).toNat ++ [l.getD ((l.length : Int) - 1).toNat 0] := by
  have := take_last h0 (Int.le_refl _)
  rw [List.take_of_length_le (by omega)] at this
  exact this

theorem lastT_eq {l : List Tree} (h0 : 0 < (l.length : Int)) : l = l.take ((l.length : Int) - 1).toNat ++ [l.getD ((l.length : Int) - 1).toNat Tree.nil] := by
  have := takeT_next (l := l) (i := (l.length : Int) - 1) (by omega) (by omega)
  rw [List.take_of_length_le (by omega)] at this
  exact this

theorem trim_step {l : List Int} (h0 : 0 < (l.length : Int)) (hz : l.getD ((l.length : Int) - 1).toNat 0 = 0) : trim (l.take ((l.length : Int) - 1).toNat) = trim l := by
  have e := trim_zero (l.take ((l.length : Int) - 1).toNat)
  have h := last_eq h0
  rw [hz] at h
  rw [← h] at e
  exact e.symm

theorem trim_done {l : List Int} (h : ¬ 0 < (l.length : Int) ∨ ¬ l.getD ((l.length : Int) - 1).toNat 0 = 0) : trim l = l := by
  by_cases h0 : 0 < (l.length : Int)
  · have e := trim_ne (x := l.getD ((l.length : Int) - 1).toNat 0) (by rcases h with h | h; exact absurd h0 h; exact h) (l.take ((l.length : Int) - 1).toNat)
    rw [← last_eq h0] at e
    exact e
  · have : l = [] := List.eq_nil_of_length_eq_zero (by omega)
    subst this
    rfl

theorem trimK_step {l : List Tree} (h0 : 0 < (l.length : Int)) (hz : (l.getD ((l.length : Int) - 1).toNat Tree.nil).kind = 0) : trimK (l.take ((l.length : Int) - 1).toNat) = trimK l := by
  have e := trimK_zero hz (l.take ((l.length : Int) - 1).toNat)
  rw [← lastT_eq h0] at e
  exact e.symm

theorem trimK_done {l : List Tree} (h : ¬ 0 < (l.length : Int) ∨ ¬ (l.getD ((l.length : Int) - 1).toNat Tree.nil).kind = 0) : trimK l = l := by
  by_cases h0 : 0 < (l.length : Int)
  · have e := trimK_ne (x := l.getD ((l.length : Int) - 1).toNat Tree.nil) (by rcases h with h | h; exact absurd h0 h; exact h) (l.take ((l.length : Int) - 1).toNat)
    rw [← lastT_eq h0] at e
    exact e
  · have : l = [] := List.eq_nil_of_length_eq_zero (by omega)
    subst this
    rfl

theorem c32 : Contract Try.prog cfg 32 spec32 := by
  refine make32 c71 ?_
  rintro N ⟨k, ws, ks⟩ _ hp hN
  have hlen := massK_len ks
  simp only [pre32, mu32, mass] at hp hN
  refine vc32 N _ _ ?_
  (simp only [vcS])
  (simp only [Tree.eta, Edit.eta, Tree.kind_mk, Tree.words_mk, Tree.kids_mk])
  refine ⟨fun hc => ?_, fun hc0 => ⟨by simp only [pre71]; omega, ?_⟩⟩
  · have e : normT (.mk k ws ks) = Tree.nil := by simp [normT, hc]
    simp only [res32, e]
    exact ⟨⟨rfl, ⟨⟨rfl, rfl⟩, ⟨rfl, ⟨rfl, trivial⟩⟩⟩, trivial⟩, trivial⟩
  · refine loop_rule (ι := Int × List Tree) (fun p => head32_0 (.mk k ws ks) p.1 p.2) (fun p => 0 ≤ p.1 ∧ p.1 ≤ ks.length ∧ p.2 = normK (ks.take p.1.toNat)) (fun p => ((ks.length : Int) - p.1).toNat) (0, []) rfl ⟨by dsimp only; omega, by dsimp only; omega, rfl⟩ ?_
    rintro ⟨i, l⟩ ⟨h1, h2, h5⟩
    dsimp only at *
    have hl : l.length = i.toNat := by rw [h5, normK_len, List.length_take]; omega
    refine vc32_l0 N _ _ _ _ _ ?_
    (simp only [vcS])
    (simp only [Tree.eta, Edit.eta, Tree.kind_mk, Tree.words_mk, Tree.kids_mk])
    refine ⟨fun hc => ?_, fun hc => ⟨fun hk => ?_, fun hk => ?_⟩⟩
    · have hm := massK_get (ks := ks) (i := i.toNat) (by omega)
      have hnx : normK (ks.take (i + 1).toNat) = l ++ [normT (ks.getD i.toNat Tree.nil)] := by rw [takeT_next h1 hc, normK_app, h5]
      exact ⟨by omega, by simp only [pre32]; omega, by simp only [mu32]; omega, by simp only [List.length_cons, List.length_nil]; omega, by unfold InR; omega, (i + 1, _), rfl, ⟨by dsimp only; omega, by dsimp only; omega, hnx.symm⟩, by dsimp only; omega⟩
    · have hi : ks.take i.toNat = ks := List.take_of_length_le (by omega)
      rw [hi] at h5
      refine loop_rule (ι := List Int) (fun p => head32_1 (.mk k ws ks) l p) (fun p => p.length ≤ ws.length ∧ trim p = trim ws) (fun p => p.length) ws rfl ⟨by omega, rfl⟩ ?_
      rintro w ⟨h6, h7⟩
      refine vc32_l1 N _ _ _ _ _ ?_
      (simp only [vcS])
      refine ⟨id, id, id, id, fun h => by unfold InR; omega, id, id, fun h => by omega, id, id, id, fun hc => ⟨by unfold InR; omega, by omega, _, rfl, ⟨by rw [List.length_take]; omega, ?_⟩, by rw [List.length_take]; omega⟩, fun hc => ?_⟩
      · rw [trim_step hc.1 hc.2, h7]
      · have hw : w = trim ws := by rw [← h7, trim_done hc]
        refine loop_rule (ι := List Tree) (fun p => head32_2 (.mk k ws ks) w p) (fun p => p.length ≤ l.length ∧ trimK p = trimK l) (fun p => p.length) l rfl ⟨by omega, rfl⟩ ?_
        rintro q ⟨h8, h9⟩
        refine vc32_l2 N _ _ _ _ _ ?_
        (simp only [vcS])
        refine ⟨id, id, id, id, fun h => by unfold InR; omega, id, id, fun h => by omega, id, id, id, id, fun hc => ⟨by unfold InR; omega, by omega, _, rfl, ⟨by rw [List.length_take]; omega, ?_⟩, by rw [List.length_take]; omega⟩, fun hc => ?_⟩
        · rw [trimK_step hc.1 hc.2, h9]
        · have hq : q = trimK (normK ks) := by rw [← h5, ← h9, trimK_done hc]
          have e : normT (.mk k ws ks) = .mk k w q := by
            subst hk
            simp only [normT, hw, hq]
            rfl
          simp only [res32, e]
          exact ⟨⟨rfl, ⟨⟨rfl, rfl⟩, ⟨rfl, trivial⟩, ⟨rfl, trivial⟩, trivial⟩, trivial⟩, trivial⟩
    · have hi : ks.take i.toNat = ks := List.take_of_length_le (by omega)
      rw [hi] at h5
      have e : normT (.mk k ws ks) = .mk k ws l := by simp only [normT, if_neg hc0, if_neg hk, h5]
      simp only [res32, e]
      exact ⟨⟨rfl, ⟨⟨rfl, rfl⟩, ⟨rfl, trivial⟩, ⟨rfl, trivial⟩, trivial⟩, trivial⟩, trivial⟩

end Go.AM.Ytlahjnelghpmeaa

namespace Go.AM.Ytlahjnelghpmeaa
open Go.AM Go.Proofs

def args112 : ArgL (Int × Unit) := (.cons (aInt .i64) .nil)
def pre112 (a : Int × Unit) : Prop := True
noncomputable def res112 (a : Int × Unit) : V U := .c (.int .i64 (wd a.1))
noncomputable def spec112 : Fs U := fs args112 (fun a => [pre112 a]) res112

def args81 : ArgL (Int × Int × Unit) := (.cons (aInt .i64) (.cons (aInt .u64) .nil))
def pre81 (a : Int × Int × Unit) : Prop := 0 ≤ a.2.1 ∧ a.2.1 < 18446744073709551616
noncomputable def res81 (a : Int × Int × Unit) : V U := .c (.bool (fits a.1 a.2.1))
noncomputable def spec81 : Fs U := fs args81 (fun a => [pre81 a]) res81

def mu80 (a : Tree × Int × Unit) : Nat := mass a.1
def args47 : ArgL (Tree × Int × Unit) := (.cons (aEl .tree) (.cons (aInt .i64) .nil))
def pre47 (a : Tree × Int × Unit) : Prop := mass a.1 ≤ 1000000 ∧ rng a.1 ∧ 0 ≤ a.2.1 ∧ a.2.1 ≤ 1000
def mu47 (a : Tree × Int × Unit) : Nat := mass a.1
noncomputable def res47 (a : Tree × Int × Unit) : V U := .c (.bool (rightT a.1 a.2.1))
noncomputable def spec47 : Fs U := fs args47 (fun a => [pre47 a]) res47

noncomputable def know112 : List (FuncId × Fs U) := []
def lv112 : Lives U := fun i => match i with
  | 0 => ([(0, [])], [])
  | 1 => ([(3, [])], [])
  | 2 => ([(3, []), (4, [])], [])
  | 3 => ([(2, [])], [])
  | 4 => ([(3, []), (6, [])], [])
  | 5 => ([(2, [])], [])
  | 6 => ([(3, []), (8, [])], [])
  | 7 => ([(2, [])], [])
  | 8 => ([(3, []), (10, [])], [])
  | 9 => ([(2, [])], [])
  | 10 => ([(3, []), (12, [])], [])
  | 11 => ([(2, [])], [])
  | 12 => ([(14, [])], [])
  | 13 => ([(2, [])], [])
  | 14 => ([(2, [])], [])
  | _ => ([], [])
theorem vc112 (c : Int) (Q : AExit → LSt U → Prop) (h : (((c : Int) == 0) = true → Q .ret (⟨[(2, .c (.int .i64 0))], [], []⟩ : LSt U)) ∧ (((c : Int) == 0) = false → (((c : Int) == 1) = true → Q .ret (⟨[(2, .c (.int .i64 1))], [], []⟩ : LSt U)) ∧ (((c : Int) == 1) = false → (((c : Int) == 2) = true → Q .ret (⟨[(2, .c (.int .i64 8))], [], []⟩ : LSt U)) ∧ (((c : Int) == 2) = false → (((c : Int) == 3) = true → Q .ret (⟨[(2, .c (.int .i64 16))], [], []⟩ : LSt U)) ∧ (((c : Int) == 3) = false → (((c : Int) == 4) = true → Q .ret (⟨[(2, .c (.int .i64 32))], [], []⟩ : LSt U)) ∧ (((c : Int) == 4) = false → (((c : Int) == 5) = true → Q .ret (⟨[(2, .c (.int .i64 64))], [], []⟩ : LSt U)) ∧ (((c : Int) == 5) = false → Q .ret (⟨[(2, .c (.int .i64 (-1)))], [], []⟩ : LSt U)))))))) :
    awp cfg (know know112) (drawOk cfg (know know112)) Try.f112.ntmps lv112 (cd Try.f112 []) (⟨[(0, .c (.int .i64 c))], [], []⟩ : LSt U) Q := by
  have e : (awp cfg (know know112) (drawOk cfg (know know112)) Try.f112.ntmps lv112 (cd Try.f112 []) (⟨[(0, .c (.int .i64 c))], [], []⟩ : LSt U) Q) = (((((((c : Int) == 0) = true → (Q .ret (⟨[(2, .c (.int .i64 0))], [], []⟩ : LSt U))) ∧ (((c : Int) == 0) = false → ((((c : Int) == 1) = true → (Q .ret (⟨[(2, .c (.int .i64 1))], [], []⟩ : LSt U))) ∧ (((c : Int) == 1) = false → ((((c : Int) == 2) = true → (Q .ret (⟨[(2, .c (.int .i64 8))], [], []⟩ : LSt U))) ∧ (((c : Int) == 2) = false → ((((c : Int) == 3) = true → (Q .ret (⟨[(2, .c (.int .i64 16))], [], []⟩ : LSt U))) ∧ (((c : Int) == 3) = false → ((((c : Int) == 4) = true → (Q .ret (⟨[(2, .c (.int .i64 32))], [], []⟩ : LSt U))) ∧ (((c : Int) == 4) = false → ((((c : Int) == 5) = true → (Q .ret (⟨[(2, .c (.int .i64 64))], [], []⟩ : LSt U))) ∧ (((c : Int) == 5) = false → (Q .ret (⟨[(2, .c (.int .i64 (-1)))], [], []⟩ : LSt U))))))))))))))))) := by kernel_rfl
  exact e.mpr ⟨fun c_1 => (h.1 c_1), fun c_1 => ⟨fun c_2 => ((h.2 c_1).1 c_2), fun c_2 => ⟨fun c_3 => (((h.2 c_1).2 c_2).1 c_3), fun c_3 => ⟨fun c_4 => ((((h.2 c_1).2 c_2).2 c_3).1 c_4), fun c_4 => ⟨fun c_5 => (((((h.2 c_1).2 c_2).2 c_3).2 c_4).1 c_5), fun c_5 => ⟨fun c_6 => ((((((h.2 c_1).2 c_2).2 c_3).2 c_4).2 c_5).1 c_6), fun c_6 => ((((((h.2 c_1).2 c_2).2 c_3).2 c_4).2 c_5).2 c_6)⟩⟩⟩⟩⟩⟩
def Body112 (c : Int)  : Prop := awp cfg (know (know112)) (drawOk cfg (know (know112))) Try.f112.ntmps lv112 (cd Try.f112 []) (entry (args112.can (c, ())) []) (EndsQ cfg Try.f112.ntmps Try.f112.results.toList (res112 (c, ())) [])
theorem make112 (hb : ∀ (c : Int) (_ : Unit), pre112 (c, ()) → Body112 c) : Contract Try.prog cfg 112 spec112 :=
  contract_flat (l := []) cfgOk rfl (trivial) lv112 Try.func112 rfl rfl 1 (fun _ => rfl) (by decide) (fun ⟨c, _⟩ => hb c ())

noncomputable def know81 : List (FuncId × Fs U) := [(112, spec112)]
def lv81 : Lives U := fun i => match i with
  | 0 => ([(0, []), (1, [])], [])
  | 1 => ([(1, []), (5, [])], [])
  | 2 => ([(1, []), (5, []), (10, [])], [])
  | 3 => ([(4, [])], [])
  | 4 => ([(1, []), (5, []), (6, [])], [])
  | 5 => ([(1, []), (5, []), (6, []), (13, [])], [])
  | 6 => ([(1, []), (5, []), (6, [])], [])
  | 7 => ([(1, []), (5, []), (6, [])], [])
  | 8 => ([(4, [])], [])
  | _ => ([], [])
def head81_0 (c : Int) (n : Int) (x1 : Int) (x6 : Int) : LSt U := (⟨[(1, .c (.int .u64 x1)), (5, .c (.int .i64 (wd c))), (6, .c (.int .i64 x6))], [], []⟩ : LSt U)
theorem vc81 (c : Int) (n : Int) (Q : AExit → LSt U → Prop) (h : (pre112 (c, ())) ∧ (((decide (((wd c) : Int) < 0)) = true → Q .ret (⟨[(4, .c (.bool false))], [], []⟩ : LSt U)) ∧ ((decide (((wd c) : Int) < 0)) = false → LoopWp (awp cfg (know know81) (drawOk cfg (know know81)) Try.f81.ntmps lv81 (cd Try.f81 [1, 1, 1, 0, 1, 0, 0])) (head81_0 c n n 0) (AExit.inBlock 0 (seqK cfg (know know81) (drawOk cfg (know know81)) Try.f81.ntmps lv81 (cd Try.f81 [1, 1, 1, 1]) Q))))) :
    awp cfg (know know81) (drawOk cfg (know know81)) Try.f81.ntmps lv81 (cd Try.f81 []) (⟨[(0, .c (.int .i64 c)), (1, .c (.int .u64 n))], [], []⟩ : LSt U) Q := by
  have e : (awp cfg (know know81) (drawOk cfg (know know81)) Try.f81.ntmps lv81 (cd Try.f81 []) (⟨[(0, .c (.int .i64 c)), (1, .c (.int .u64 n))], [], []⟩ : LSt U) Q) = (((pre112 (c, ())) ∧ ((((decide (((wd c) : Int) < 0)) = true → (Q .ret (⟨[(4, .c (.bool false))], [], []⟩ : LSt U))) ∧ ((decide (((wd c) : Int) < 0)) = false → (LoopWp (awp cfg (know know81) (drawOk cfg (know know81)) Try.f81.ntmps lv81 (cd Try.f81 [1, 1, 1, 0, 1, 0, 0])) (head81_0 c n n 0) (AExit.inBlock 0 (seqK cfg (know know81) (drawOk cfg (know know81)) Try.f81.ntmps lv81 (cd Try.f81 [1, 1, 1, 1]) Q)))))))) := by kernel_rfl
  exact e.mpr ⟨h.1, ⟨fun c_7 => (h.2.1 c_7), fun c_7 => (h.2.2 c_7)⟩⟩
theorem vc81_l0 (c : Int) (n : Int) (x1 : Int) (x6 : Int) (N0 : LSt U → Prop) (Q : AExit → LSt U → Prop) (h : ((decide ((x6 : Int) < (wd c))) = true → ((2 : Int) ≠ 0) ∧ ((InR ((x6 : Int) + 1)) ∧ (N0 (head81_0 c n (IntKind.wrap .u64 (Int.tdiv x1 2)) ((x6 : Int) + 1))))) ∧ ((decide ((x6 : Int) < (wd c))) = false → Q .ret (⟨[(4, .c (.bool ((x1 : Int) == 0)))], [], []⟩ : LSt U))) :
    awp cfg (know know81) (drawOk cfg (know know81)) Try.f81.ntmps lv81 (cd Try.f81 [1, 1, 1, 0, 1, 0, 0]) (head81_0 c n x1 x6) (AExit.then N0 (AExit.inBlock 0 (seqK cfg (know know81) (drawOk cfg (know know81)) Try.f81.ntmps lv81 (cd Try.f81 [1, 1, 1, 1]) Q))) := by
  have e : (awp cfg (know know81) (drawOk cfg (know know81)) Try.f81.ntmps lv81 (cd Try.f81 [1, 1, 1, 0, 1, 0, 0]) (head81_0 c n x1 x6) (AExit.then N0 (AExit.inBlock 0 (seqK cfg (know know81) (drawOk cfg (know know81)) Try.f81.ntmps lv81 (cd Try.f81 [1, 1, 1, 1]) Q)))) = ((((decide ((x6 : Int) < (wd c))) = true → ((2 : Int) ≠ 0) ∧ ((InR ((x6 : Int) + 1)) ∧ (N0 (head81_0 c n (IntKind.wrap .u64 (Int.tdiv x1 2)) ((x6 : Int) + 1))))) ∧ ((decide ((x6 : Int) < (wd c))) = false → (Q .ret (⟨[(4, .c (.bool ((x1 : Int) == 0)))], [], []⟩ : LSt U))))) := by kernel_rfl
  exact e.mpr ⟨fun c_8 => ⟨(h.1 c_8).1, ⟨(h.1 c_8).2.1, (h.1 c_8).2.2⟩⟩, fun c_8 => (h.2 c_8)⟩
def Body81 (c : Int) (n : Int)  : Prop := awp cfg (know (know81)) (drawOk cfg (know (know81))) Try.f81.ntmps lv81 (cd Try.f81 []) (entry (args81.can (c, n, ())) []) (EndsQ cfg Try.f81.ntmps Try.f81.results.toList (res81 (c, n, ())) [])
theorem make81 (c112 : Contract Try.prog cfg 112 spec112) (hb : ∀ (c : Int) (n : Int) (_ : Unit), pre81 (c, n, ()) → Body81 c n) : Contract Try.prog cfg 81 spec81 :=
  contract_flat (l := [(112, spec112)]) cfgOk rfl (⟨c112, trivial⟩) lv81 Try.func81 rfl rfl 2 (fun _ => rfl) (by decide) (fun ⟨c, n, _⟩ => hb c n ())

noncomputable def know47 (N : Nat) : List (FuncId × Fs U) := (47, fs args47 (fun a => [pre47 a, mu47 a < N]) res47) :: [(81, spec81)]
def lv47 : Lives U := fun i => match i with
  | 0 => ([(1, []), (2, [])], [((.loc 2), [])])
  | 1 => ([(1, []), (2, []), (10, [])], [((.loc 2), [])])
  | 2 => ([(4, [])], [])
  | 3 => ([(1, []), (2, []), (23, [])], [((.loc 2), [])])
  | 4 => ([(4, [])], [])
  | 5 => ([(1, []), (2, []), (68, [])], [((.loc 2), [])])
  | 6 => ([(4, [])], [])
  | 7 => ([(1, []), (2, []), (77, [])], [((.loc 2), [])])
  | 8 => ([(4, [])], [])
  | 9 => ([(1, []), (2, []), (5, [])], [((.loc 2), [])])
  | 10 => ([(1, []), (2, []), (5, []), (82, [])], [((.loc 2), [])])
  | 11 => ([(1, []), (2, []), (5, [])], [((.loc 2), [])])
  | 12 => ([(1, []), (2, []), (5, []), (6, [])], [((.loc 2), []), ((.loc 6), [])])
  | 13 => ([(1, []), (2, []), (5, []), (6, []), (94, [])], [((.loc 2), []), ((.loc 6), [])])
  | 14 => ([(4, [])], [])
  | 15 => ([(1, []), (2, []), (5, []), (6, []), (7, [])], [((.loc 2), []), ((.loc 6), [])])
  | 16 => ([(1, []), (2, []), (5, []), (131, [])], [((.loc 2), [])])
  | 17 => ([(4, [])], [])
  | 18 => ([(4, [])], [])
  | _ => ([], [])
def head47_0 (t : Tree) (d : Int) (x5 : Int) : LSt U := (⟨[(1, .c (.int .i64 d)), (2, .ptr (.loc 2) 0), (5, .c (.int .i64 x5))], [((.loc 2), [.int .i64 (Tree.kind t), .slice (U := U) .u64 (Tree.words t) .unk, .slice (U := U) .tree (Tree.kids t) .unk])], []⟩ : LSt U)
theorem vc47 (N : Nat) (t : Tree) (d : Int) (Q : AExit → LSt U → Prop) (h : ((((Tree.kind t) : Int) == 0) = true → Q .ret (⟨[(4, .c (.bool (bif ((((Tree.words t).length : Int) : Int) == 0) then ((((Tree.kids t).length : Int) : Int) == 0) else false)))], [], []⟩ : LSt U)) ∧ ((((Tree.kind t) : Int) == 0) = false → ((((Tree.kind t) : Int) == 10) = true → Q .ret (⟨[(4, .c (.bool (bif ((((Tree.words t).length : Int) : Int) == 1) then ((((Tree.kids t).length : Int) : Int) == 0) else false)))], [], []⟩ : LSt U)) ∧ ((((Tree.kind t) : Int) == 10) = false → ((bif (bif (bif (bif (bif (decide (((Tree.kind t) : Int) < 0)) then true else (decide ((10 : Int) < (Tree.kind t)))) then true else ((d : Int) == 0)) then true else (decide ((65536 : Int) ≤ ((Tree.words t).length : Int)))) then true else (bif (((Tree.kind t) : Int) == 1) then (decide ((65536 : Int) ≤ ((Tree.kids t).length : Int))) else false)) then true else (decide ((1048576 : Int) ≤ ((Tree.kids t).length : Int)))) = true → Q .ret (⟨[(4, .c (.bool false))], [], []⟩ : LSt U)) ∧ ((bif (bif (bif (bif (bif (decide (((Tree.kind t) : Int) < 0)) then true else (decide ((10 : Int) < (Tree.kind t)))) then true else ((d : Int) == 0)) then true else (decide ((65536 : Int) ≤ ((Tree.words t).length : Int)))) then true else (bif (((Tree.kind t) : Int) == 1) then (decide ((65536 : Int) ≤ ((Tree.kids t).length : Int))) else false)) then true else (decide ((1048576 : Int) ≤ ((Tree.kids t).length : Int)))) = false → ((bif (decide ((1 : Int) < (Tree.kind t))) then (decide ((0 : Int) < ((Tree.words t).length : Int))) else false) = true → Q .ret (⟨[(4, .c (.bool false))], [], []⟩ : LSt U)) ∧ ((bif (decide ((1 : Int) < (Tree.kind t))) then (decide ((0 : Int) < ((Tree.words t).length : Int))) else false) = false → LoopWp (awp cfg (know (know47 N)) (drawOk cfg (know (know47 N))) Try.f47.ntmps lv47 (cd Try.f47 [1, 1, 1, 1, 1, 0, 1, 0, 0])) (head47_0 t d 0) (AExit.inBlock 0 (seqK cfg (know (know47 N)) (drawOk cfg (know (know47 N))) Try.f47.ntmps lv47 (cd Try.f47 [1, 1, 1, 1, 1, 1]) Q))))))) :
    awp cfg (know (know47 N)) (drawOk cfg (know (know47 N))) Try.f47.ntmps lv47 (cd Try.f47 []) (⟨[(0, .agg [.int .i64 (Tree.kind t), .slice (U := U) .u64 (Tree.words t) .unk, .slice (U := U) .tree (Tree.kids t) .unk]), (1, .c (.int .i64 d))], [], []⟩ : LSt U) Q := by
  have e : (awp cfg (know (know47 N)) (drawOk cfg (know (know47 N))) Try.f47.ntmps lv47 (cd Try.f47 []) (⟨[(0, .agg [.int .i64 (Tree.kind t), .slice (U := U) .u64 (Tree.words t) .unk, .slice (U := U) .tree (Tree.kids t) .unk]), (1, .c (.int .i64 d))], [], []⟩ : LSt U) Q) = (((((((Tree.kind t) : Int) == 0) = true → (((((Tree.words t).length : Int) : Int) == 0) = true → ((((Tree.words t).length : Int) : Int) == 0) = true) ∧ (((((Tree.words t).length : Int) : Int) == 0) = true → ((((Tree.words t).length : Int) : Int) == 0) = true) ∧ (((((Tree.words t).length : Int) : Int) == 0) = true → ((((Tree.words t).length : Int) : Int) == 0) = true) ∧ ((((((Tree.words t).length : Int) : Int) == 0) = true → ((((Tree.words t).length : Int) : Int) == 0) = true)) ∧ (Q .ret (⟨[(4, .c (.bool (bif ((((Tree.words t).length : Int) : Int) == 0) then ((((Tree.kids t).length : Int) : Int) == 0) else false)))], [], []⟩ : LSt U))) ∧ ((((Tree.kind t) : Int) == 0) = false → (((((Tree.kind t) : Int) == 10) = true → (((((Tree.words t).length : Int) : Int) == 1) = true → ((((Tree.words t).length : Int) : Int) == 1) = true) ∧ (((((Tree.words t).length : Int) : Int) == 1) = true → ((((Tree.words t).length : Int) : Int) == 1) = true) ∧ (((((Tree.words t).length : Int) : Int) == 1) = true → ((((Tree.words t).length : Int) : Int) == 1) = true) ∧ ((((((Tree.words t).length : Int) : Int) == 1) = true → ((((Tree.words t).length : Int) : Int) == 1) = true)) ∧ (Q .ret (⟨[(4, .c (.bool (bif ((((Tree.words t).length : Int) : Int) == 1) then ((((Tree.kids t).length : Int) : Int) == 0) else false)))], [], []⟩ : LSt U))) ∧ ((((Tree.kind t) : Int) == 10) = false → ((!(decide (((Tree.kind t) : Int) < 0))) = true → (!(decide (((Tree.kind t) : Int) < 0))) = true) ∧ ((!(decide (((Tree.kind t) : Int) < 0))) = true → (!(decide (((Tree.kind t) : Int) < 0))) = true) ∧ (((decide (((Tree.kind t) : Int) < 0)) = false → (!(decide (((Tree.kind t) : Int) < 0))) = true)) ∧ ((!(bif (decide (((Tree.kind t) : Int) < 0)) then true else (decide ((10 : Int) < (Tree.kind t))))) = true → (!(bif (decide (((Tree.kind t) : Int) < 0)) then true else (decide ((10 : Int) < (Tree.kind t))))) = true) ∧ (((bif (decide (((Tree.kind t) : Int) < 0)) then true else (decide ((10 : Int) < (Tree.kind t)))) = false → (!(bif (decide (((Tree.kind t) : Int) < 0)) then true else (decide ((10 : Int) < (Tree.kind t))))) = true)) ∧ ((!(bif (bif (decide (((Tree.kind t) : Int) < 0)) then true else (decide ((10 : Int) < (Tree.kind t)))) then true else ((d : Int) == 0))) = true → (!(bif (bif (decide (((Tree.kind t) : Int) < 0)) then true else (decide ((10 : Int) < (Tree.kind t)))) then true else ((d : Int) == 0))) = true) ∧ ((!(bif (bif (decide (((Tree.kind t) : Int) < 0)) then true else (decide ((10 : Int) < (Tree.kind t)))) then true else ((d : Int) == 0))) = true → (!(bif (bif (decide (((Tree.kind t) : Int) < 0)) then true else (decide ((10 : Int) < (Tree.kind t)))) then true else ((d : Int) == 0))) = true) ∧ ((!(bif (bif (decide (((Tree.kind t) : Int) < 0)) then true else (decide ((10 : Int) < (Tree.kind t)))) then true else ((d : Int) == 0))) = true → (!(bif (bif (decide (((Tree.kind t) : Int) < 0)) then true else (decide ((10 : Int) < (Tree.kind t)))) then true else ((d : Int) == 0))) = true) ∧ (((bif (bif (decide (((Tree.kind t) : Int) < 0)) then true else (decide ((10 : Int) < (Tree.kind t)))) then true else ((d : Int) == 0)) = false → (!(bif (bif (decide (((Tree.kind t) : Int) < 0)) then true else (decide ((10 : Int) < (Tree.kind t)))) then true else ((d : Int) == 0))) = true)) ∧ ((!(bif (bif (bif (decide (((Tree.kind t) : Int) < 0)) then true else (decide ((10 : Int) < (Tree.kind t)))) then true else ((d : Int) == 0)) then true else (decide ((65536 : Int) ≤ ((Tree.words t).length : Int))))) = true → (!(bif (bif (bif (decide (((Tree.kind t) : Int) < 0)) then true else (decide ((10 : Int) < (Tree.kind t)))) then true else ((d : Int) == 0)) then true else (decide ((65536 : Int) ≤ ((Tree.words t).length : Int))))) = true) ∧ ((!(bif (bif (bif (decide (((Tree.kind t) : Int) < 0)) then true else (decide ((10 : Int) < (Tree.kind t)))) then true else ((d : Int) == 0)) then true else (decide ((65536 : Int) ≤ ((Tree.words t).length : Int))))) = true → (!(bif (bif (bif (decide (((Tree.kind t) : Int) < 0)) then true else (decide ((10 : Int) < (Tree.kind t)))) then true else ((d : Int) == 0)) then true else (decide ((65536 : Int) ≤ ((Tree.words t).length : Int))))) = true) ∧ ((!(bif (bif (bif (decide (((Tree.kind t) : Int) < 0)) then true else (decide ((10 : Int) < (Tree.kind t)))) then true else ((d : Int) == 0)) then true else (decide ((65536 : Int) ≤ ((Tree.words t).length : Int))))) = true → (!(bif (bif (bif (decide (((Tree.kind t) : Int) < 0)) then true else (decide ((10 : Int) < (Tree.kind t)))) then true else ((d : Int) == 0)) then true else (decide ((65536 : Int) ≤ ((Tree.words t).length : Int))))) = true) ∧ (((!(bif (bif (bif (decide (((Tree.kind t) : Int) < 0)) then true else (decide ((10 : Int) < (Tree.kind t)))) then true else ((d : Int) == 0)) then true else (decide ((65536 : Int) ≤ ((Tree.words t).length : Int))))) && (((Tree.kind t) : Int) == 1)) = true → ((!(bif (bif (bif (decide (((Tree.kind t) : Int) < 0)) then true else (decide ((10 : Int) < (Tree.kind t)))) then true else ((d : Int) == 0)) then true else (decide ((65536 : Int) ≤ ((Tree.words t).length : Int))))) && (((Tree.kind t) : Int) == 1)) = true) ∧ (((!(bif (bif (bif (decide (((Tree.kind t) : Int) < 0)) then true else (decide ((10 : Int) < (Tree.kind t)))) then true else ((d : Int) == 0)) then true else (decide ((65536 : Int) ≤ ((Tree.words t).length : Int))))) && (((Tree.kind t) : Int) == 1)) = true → ((!(bif (bif (bif (decide (((Tree.kind t) : Int) < 0)) then true else (decide ((10 : Int) < (Tree.kind t)))) then true else ((d : Int) == 0)) then true else (decide ((65536 : Int) ≤ ((Tree.words t).length : Int))))) && (((Tree.kind t) : Int) == 1)) = true) ∧ (((!(bif (bif (bif (decide (((Tree.kind t) : Int) < 0)) then true else (decide ((10 : Int) < (Tree.kind t)))) then true else ((d : Int) == 0)) then true else (decide ((65536 : Int) ≤ ((Tree.words t).length : Int))))) && (((Tree.kind t) : Int) == 1)) = true → ((!(bif (bif (bif (decide (((Tree.kind t) : Int) < 0)) then true else (decide ((10 : Int) < (Tree.kind t)))) then true else ((d : Int) == 0)) then true else (decide ((65536 : Int) ≤ ((Tree.words t).length : Int))))) && (((Tree.kind t) : Int) == 1)) = true) ∧ ((!(bif (bif (bif (decide (((Tree.kind t) : Int) < 0)) then true else (decide ((10 : Int) < (Tree.kind t)))) then true else ((d : Int) == 0)) then true else (decide ((65536 : Int) ≤ ((Tree.words t).length : Int))))) = true → (True → (!(bif (bif (bif (decide (((Tree.kind t) : Int) < 0)) then true else (decide ((10 : Int) < (Tree.kind t)))) then true else ((d : Int) == 0)) then true else (decide ((65536 : Int) ≤ ((Tree.words t).length : Int))))) = true)) ∧ ((!(bif (bif (bif (decide (((Tree.kind t) : Int) < 0)) then true else (decide ((10 : Int) < (Tree.kind t)))) then true else ((d : Int) == 0)) then true else (decide ((65536 : Int) ≤ ((Tree.words t).length : Int))))) = true → ((((Tree.kind t) : Int) == 1) = true → ((!(bif (bif (bif (decide (((Tree.kind t) : Int) < 0)) then true else (decide ((10 : Int) < (Tree.kind t)))) then true else ((d : Int) == 0)) then true else (decide ((65536 : Int) ≤ ((Tree.words t).length : Int))))) && (((Tree.kind t) : Int) == 1)) = true)) ∧ (((bif (bif (bif (decide (((Tree.kind t) : Int) < 0)) then true else (decide ((10 : Int) < (Tree.kind t)))) then true else ((d : Int) == 0)) then true else (decide ((65536 : Int) ≤ ((Tree.words t).length : Int)))) = false → (!(bif (bif (bif (decide (((Tree.kind t) : Int) < 0)) then true else (decide ((10 : Int) < (Tree.kind t)))) then true else ((d : Int) == 0)) then true else (decide ((65536 : Int) ≤ ((Tree.words t).length : Int))))) = true)) ∧ ((!(bif (bif (bif (bif (decide (((Tree.kind t) : Int) < 0)) then true else (decide ((10 : Int) < (Tree.kind t)))) then true else ((d : Int) == 0)) then true else (decide ((65536 : Int) ≤ ((Tree.words t).length : Int)))) then true else (bif (((Tree.kind t) : Int) == 1) then (decide ((65536 : Int) ≤ ((Tree.kids t).length : Int))) else false))) = true → (!(bif (bif (bif (bif (decide (((Tree.kind t) : Int) < 0)) then true else (decide ((10 : Int) < (Tree.kind t)))) then true else ((d : Int) == 0)) then true else (decide ((65536 : Int) ≤ ((Tree.words t).length : Int)))) then true else (bif (((Tree.kind t) : Int) == 1) then (decide ((65536 : Int) ≤ ((Tree.kids t).length : Int))) else false))) = true) ∧ ((!(bif (bif (bif (bif (decide (((Tree.kind t) : Int) < 0)) then true else (decide ((10 : Int) < (Tree.kind t)))) then true else ((d : Int) == 0)) then true else (decide ((65536 : Int) ≤ ((Tree.words t).length : Int)))) then true else (bif (((Tree.kind t) : Int) == 1) then (decide ((65536 : Int) ≤ ((Tree.kids t).length : Int))) else false))) = true → (!(bif (bif (bif (bif (decide (((Tree.kind t) : Int) < 0)) then true else (decide ((10 : Int) < (Tree.kind t)))) then true else ((d : Int) == 0)) then true else (decide ((65536 : Int) ≤ ((Tree.words t).length : Int)))) then true else (bif (((Tree.kind t) : Int) == 1) then (decide ((65536 : Int) ≤ ((Tree.kids t).length : Int))) else false))) = true) ∧ ((!(bif (bif (bif (bif (decide (((Tree.kind t) : Int) < 0)) then true else (decide ((10 : Int) < (Tree.kind t)))) then true else ((d : Int) == 0)) then true else (decide ((65536 : Int) ≤ ((Tree.words t).length : Int)))) then true else (bif (((Tree.kind t) : Int) == 1) then (decide ((65536 : Int) ≤ ((Tree.kids t).length : Int))) else false))) = true → (!(bif (bif (bif (bif (decide (((Tree.kind t) : Int) < 0)) then true else (decide ((10 : Int) < (Tree.kind t)))) then true else ((d : Int) == 0)) then true else (decide ((65536 : Int) ≤ ((Tree.words t).length : Int)))) then true else (bif (((Tree.kind t) : Int) == 1) then (decide ((65536 : Int) ≤ ((Tree.kids t).length : Int))) else false))) = true) ∧ (((bif (bif (bif (bif (decide (((Tree.kind t) : Int) < 0)) then true else (decide ((10 : Int) < (Tree.kind t)))) then true else ((d : Int) == 0)) then true else (decide ((65536 : Int) ≤ ((Tree.words t).length : Int)))) then true else (bif (((Tree.kind t) : Int) == 1) then (decide ((65536 : Int) ≤ ((Tree.kids t).length : Int))) else false)) = false → (!(bif (bif (bif (bif (decide (((Tree.kind t) : Int) < 0)) then true else (decide ((10 : Int) < (Tree.kind t)))) then true else ((d : Int) == 0)) then true else (decide ((65536 : Int) ≤ ((Tree.words t).length : Int)))) then true else (bif (((Tree.kind t) : Int) == 1) then (decide ((65536 : Int) ≤ ((Tree.kids t).length : Int))) else false))) = true)) ∧ (((bif (bif (bif (bif (bif (decide (((Tree.kind t) : Int) < 0)) then true else (decide ((10 : Int) < (Tree.kind t)))) then true else ((d : Int) == 0)) then true else (decide ((65536 : Int) ≤ ((Tree.words t).length : Int)))) then true else (bif (((Tree.kind t) : Int) == 1) then (decide ((65536 : Int) ≤ ((Tree.kids t).length : Int))) else false)) then true else (decide ((1048576 : Int) ≤ ((Tree.kids t).length : Int)))) = true → (Q .ret (⟨[(4, .c (.bool false))], [], []⟩ : LSt U))) ∧ ((bif (bif (bif (bif (bif (decide (((Tree.kind t) : Int) < 0)) then true else (decide ((10 : Int) < (Tree.kind t)))) then true else ((d : Int) == 0)) then true else (decide ((65536 : Int) ≤ ((Tree.words t).length : Int)))) then true else (bif (((Tree.kind t) : Int) == 1) then (decide ((65536 : Int) ≤ ((Tree.kids t).length : Int))) else false)) then true else (decide ((1048576 : Int) ≤ ((Tree.kids t).length : Int)))) = false → ((decide ((1 : Int) < (Tree.kind t))) = true → (decide ((1 : Int) < (Tree.kind t))) = true) ∧ ((decide ((1 : Int) < (Tree.kind t))) = true → (decide ((1 : Int) < (Tree.kind t))) = true) ∧ ((decide ((1 : Int) < (Tree.kind t))) = true → (decide ((1 : Int) < (Tree.kind t))) = true) ∧ (((decide ((1 : Int) < (Tree.kind t))) = true → (decide ((1 : Int) < (Tree.kind t))) = true)) ∧ (((bif (decide ((1 : Int) < (Tree.kind t))) then (decide ((0 : Int) < ((Tree.words t).length : Int))) else false) = true → (Q .ret (⟨[(4, .c (.bool false))], [], []⟩ : LSt U))) ∧ ((bif (decide ((1 : Int) < (Tree.kind t))) then (decide ((0 : Int) < ((Tree.words t).length : Int))) else false) = false → (LoopWp (awp cfg (know (know47 N)) (drawOk cfg (know (know47 N))) Try.f47.ntmps lv47 (cd Try.f47 [1, 1, 1, 1, 1, 0, 1, 0, 0])) (head47_0 t d 0) (AExit.inBlock 0 (seqK cfg (know (know47 N)) (drawOk cfg (know (know47 N))) Try.f47.ntmps lv47 (cd Try.f47 [1, 1, 1, 1, 1, 1]) Q))))))))))))) := by kernel_rfl
  exact e.mpr ⟨fun c_22 => ⟨fun x => x, fun x => x, fun x => x, (by generalize ((((Tree.words t).length : Int) : Int) == 0) = b0; revert b0; decide), (h.1 c_22)⟩, fun c_22 => ⟨fun c_23 => ⟨fun x => x, fun x => x, fun x => x, (by generalize ((((Tree.words t).length : Int) : Int) == 1) = b0; revert b0; decide), ((h.2 c_22).1 c_23)⟩, fun c_23 => ⟨fun x => x, fun x => x, (by generalize (decide (((Tree.kind t) : Int) < 0)) = b0; revert b0; decide), fun x => x, (by generalize (decide ((10 : Int) < (Tree.kind t))) = b0; generalize (decide (((Tree.kind t) : Int) < 0)) = b1; revert b0 b1; decide), fun x => x, fun x => x, fun x => x, (by generalize (decide ((10 : Int) < (Tree.kind t))) = b0; generalize (decide (((Tree.kind t) : Int) < 0)) = b1; generalize ((d : Int) == 0) = b2; revert b0 b1 b2; decide), fun x => x, fun x => x, fun x => x, fun x => x, fun x => x, fun x => x, (by generalize (decide ((65536 : Int) ≤ ((Tree.words t).length : Int))) = b0; generalize (decide ((10 : Int) < (Tree.kind t))) = b1; generalize (decide (((Tree.kind t) : Int) < 0)) = b2; generalize ((d : Int) == 0) = b3; revert b0 b1 b2 b3; decide), (by generalize (decide ((65536 : Int) ≤ ((Tree.words t).length : Int))) = b0; generalize (decide ((10 : Int) < (Tree.kind t))) = b1; generalize (decide (((Tree.kind t) : Int) < 0)) = b2; generalize (((Tree.kind t) : Int) == 1) = b3; generalize ((d : Int) == 0) = b4; revert b0 b1 b2 b3 b4; decide), (by generalize (decide ((65536 : Int) ≤ ((Tree.words t).length : Int))) = b0; generalize (decide ((10 : Int) < (Tree.kind t))) = b1; generalize (decide (((Tree.kind t) : Int) < 0)) = b2; generalize ((d : Int) == 0) = b3; revert b0 b1 b2 b3; decide), fun x => x, fun x => x, fun x => x, (by generalize (decide ((65536 : Int) ≤ ((Tree.words t).length : Int))) = b0; generalize (decide ((65536 : Int) ≤ ((Tree.kids t).length : Int))) = b1; generalize (decide ((10 : Int) < (Tree.kind t))) = b2; generalize (decide (((Tree.kind t) : Int) < 0)) = b3; generalize (((Tree.kind t) : Int) == 1) = b4; generalize ((d : Int) == 0) = b5; revert b0 b1 b2 b3 b4 b5; decide), ⟨fun c_24 => (((h.2 c_22).2 c_23).1 c_24), fun c_24 => ⟨fun x => x, fun x => x, fun x => x, (by generalize (decide ((1 : Int) < (Tree.kind t))) = b0; revert b0; decide), ⟨fun c_25 => ((((h.2 c_22).2 c_23).2 c_24).1 c_25), fun c_25 => ((((h.2 c_22).2 c_23).2 c_24).2 c_25)⟩⟩⟩⟩⟩⟩
theorem vc47_l0 (N : Nat) (t : Tree) (d : Int) (x5 : Int) (N0 : LSt U → Prop) (Q : AExit → LSt U → Prop) (h : ((decide ((x5 : Int) < ((Tree.kids t).length : Int))) = true → ((0 : Int) ≤ x5 ∧ x5 < ((Tree.kids t).length : Int)) ∧ ((InR ((d : Int) - 1)) ∧ (pre47 ((Tree.mk (Tree.kind (List.getD (Tree.kids t) (Int.toNat x5) Tree.nil)) (Tree.words (List.getD (Tree.kids t) (Int.toNat x5) Tree.nil)) (Tree.kids (List.getD (Tree.kids t) (Int.toNat x5) Tree.nil))), ((d : Int) - 1), ())) ∧ (mu47 ((Tree.mk (Tree.kind (List.getD (Tree.kids t) (Int.toNat x5) Tree.nil)) (Tree.words (List.getD (Tree.kids t) (Int.toNat x5) Tree.nil)) (Tree.kids (List.getD (Tree.kids t) (Int.toNat x5) Tree.nil))), ((d : Int) - 1), ()) < N) ∧ (((!(rightT (Tree.mk (Tree.kind (List.getD (Tree.kids t) (Int.toNat x5) Tree.nil)) (Tree.words (List.getD (Tree.kids t) (Int.toNat x5) Tree.nil)) (Tree.kids (List.getD (Tree.kids t) (Int.toNat x5) Tree.nil))) ((d : Int) - 1))) = true → Q .ret (⟨[(4, .c (.bool false))], [], []⟩ : LSt U)) ∧ ((!(rightT (Tree.mk (Tree.kind (List.getD (Tree.kids t) (Int.toNat x5) Tree.nil)) (Tree.words (List.getD (Tree.kids t) (Int.toNat x5) Tree.nil)) (Tree.kids (List.getD (Tree.kids t) (Int.toNat x5) Tree.nil))) ((d : Int) - 1))) = false → (((!(bif ((bif (decide ((2 : Int) ≤ (Tree.kind t))) then (decide (((Tree.kind t) : Int) ≤ 7)) else false) != (((Tree.kind (List.getD (Tree.kids t) (Int.toNat x5) Tree.nil)) : Int) == 10)) then true else (bif (((Tree.kind t) : Int) == 9) then (((Tree.kind (List.getD (Tree.kids t) (Int.toNat x5) Tree.nil)) : Int) != 1) else false))) && (bif (decide ((2 : Int) ≤ (Tree.kind t))) then (decide (((Tree.kind t) : Int) ≤ 7)) else false)) = true → InR (((Tree.kind t) : Int) - 2)) ∧ (((!(bif ((bif (decide ((2 : Int) ≤ (Tree.kind t))) then (decide (((Tree.kind t) : Int) ≤ 7)) else false) != (((Tree.kind (List.getD (Tree.kids t) (Int.toNat x5) Tree.nil)) : Int) == 10)) then true else (bif (((Tree.kind t) : Int) == 9) then (((Tree.kind (List.getD (Tree.kids t) (Int.toNat x5) Tree.nil)) : Int) != 1) else false))) && (bif (decide ((2 : Int) ≤ (Tree.kind t))) then (decide (((Tree.kind t) : Int) ≤ 7)) else false)) = true → (0 : Int) ≤ 0 ∧ 0 < ((Tree.words (List.getD (Tree.kids t) (Int.toNat x5) Tree.nil)).length : Int)) ∧ (((!(bif ((bif (decide ((2 : Int) ≤ (Tree.kind t))) then (decide (((Tree.kind t) : Int) ≤ 7)) else false) != (((Tree.kind (List.getD (Tree.kids t) (Int.toNat x5) Tree.nil)) : Int) == 10)) then true else (bif (((Tree.kind t) : Int) == 9) then (((Tree.kind (List.getD (Tree.kids t) (Int.toNat x5) Tree.nil)) : Int) != 1) else false))) && (bif (decide ((2 : Int) ≤ (Tree.kind t))) then (decide (((Tree.kind t) : Int) ≤ 7)) else false)) = true → pre81 ((((Tree.kind t) : Int) - 2), (List.getD (Tree.words (List.getD (Tree.kids t) (Int.toNat x5) Tree.nil)) (Int.toNat 0) (0 : Int)), ())) ∧ (((bif (bif ((bif (decide ((2 : Int) ≤ (Tree.kind t))) then (decide (((Tree.kind t) : Int) ≤ 7)) else false) != (((Tree.kind (List.getD (Tree.kids t) (Int.toNat x5) Tree.nil)) : Int) == 10)) then true else (bif (((Tree.kind t) : Int) == 9) then (((Tree.kind (List.getD (Tree.kids t) (Int.toNat x5) Tree.nil)) : Int) != 1) else false)) then true else (bif (bif (decide ((2 : Int) ≤ (Tree.kind t))) then (decide (((Tree.kind t) : Int) ≤ 7)) else false) then (!(fits (((Tree.kind t) : Int) - 2) (List.getD (Tree.words (List.getD (Tree.kids t) (Int.toNat x5) Tree.nil)) (Int.toNat 0) (0 : Int)))) else false)) = true → Q .ret (⟨[(4, .c (.bool false))], [], []⟩ : LSt U)) ∧ ((bif (bif ((bif (decide ((2 : Int) ≤ (Tree.kind t))) then (decide (((Tree.kind t) : Int) ≤ 7)) else false) != (((Tree.kind (List.getD (Tree.kids t) (Int.toNat x5) Tree.nil)) : Int) == 10)) then true else (bif (((Tree.kind t) : Int) == 9) then (((Tree.kind (List.getD (Tree.kids t) (Int.toNat x5) Tree.nil)) : Int) != 1) else false)) then true else (bif (bif (decide ((2 : Int) ≤ (Tree.kind t))) then (decide (((Tree.kind t) : Int) ≤ 7)) else false) then (!(fits (((Tree.kind t) : Int) - 2) (List.getD (Tree.words (List.getD (Tree.kids t) (Int.toNat x5) Tree.nil)) (Int.toNat 0) (0 : Int)))) else false)) = false → (InR ((x5 : Int) + 1)) ∧ (N0 (head47_0 t d ((x5 : Int) + 1))))))))) ∧ ((decide ((x5 : Int) < ((Tree.kids t).length : Int))) = false → Q .ret (⟨[(4, .c (.bool true))], [], []⟩ : LSt U))) :
    awp cfg (know (know47 N)) (drawOk cfg (know (know47 N))) Try.f47.ntmps lv47 (cd Try.f47 [1, 1, 1, 1, 1, 0, 1, 0, 0]) (head47_0 t d x5) (AExit.then N0 (AExit.inBlock 0 (seqK cfg (know (know47 N)) (drawOk cfg (know (know47 N))) Try.f47.ntmps lv47 (cd Try.f47 [1, 1, 1, 1, 1, 1]) Q))) := by
  have e : (awp cfg (know (know47 N)) (drawOk cfg (know (know47 N))) Try.f47.ntmps lv47 (cd Try.f47 [1, 1, 1, 1, 1, 0, 1, 0, 0]) (head47_0 t d x5) (AExit.then N0 (AExit.inBlock 0 (seqK cfg (know (know47 N)) (drawOk cfg (know (know47 N))) Try.f47.ntmps lv47 (cd Try.f47 [1, 1, 1, 1, 1, 1]) Q)))) = ((((decide ((x5 : Int) < ((Tree.kids t).length : Int))) = true → ((0 : Int) ≤ x5 ∧ x5 < ((Tree.kids t).length : Int)) ∧ ((InR ((d : Int) - 1)) ∧ (pre47 ((Tree.mk (Tree.kind (List.getD (Tree.kids t) (Int.toNat x5) Tree.nil)) (Tree.words (List.getD (Tree.kids t) (Int.toNat x5) Tree.nil)) (Tree.kids (List.getD (Tree.kids t) (Int.toNat x5) Tree.nil))), ((d : Int) - 1), ())) ∧ (mu47 ((Tree.mk (Tree.kind (List.getD (Tree.kids t) (Int.toNat x5) Tree.nil)) (Tree.words (List.getD (Tree.kids t) (Int.toNat x5) Tree.nil)) (Tree.kids (List.getD (Tree.kids t) (Int.toNat x5) Tree.nil))), ((d : Int) - 1), ()) < N) ∧ (((!(rightT (Tree.mk (Tree.kind (List.getD (Tree.kids t) (Int.toNat x5) Tree.nil)) (Tree.words (List.getD (Tree.kids t) (Int.toNat x5) Tree.nil)) (Tree.kids (List.getD (Tree.kids t) (Int.toNat x5) Tree.nil))) ((d : Int) - 1))) = true → (Q .ret (⟨[(4, .c (.bool false))], [], []⟩ : LSt U))) ∧ ((!(rightT (Tree.mk (Tree.kind (List.getD (Tree.kids t) (Int.toNat x5) Tree.nil)) (Tree.words (List.getD (Tree.kids t) (Int.toNat x5) Tree.nil)) (Tree.kids (List.getD (Tree.kids t) (Int.toNat x5) Tree.nil))) ((d : Int) - 1))) = false → ((decide ((2 : Int) ≤ (Tree.kind t))) = true → (decide ((2 : Int) ≤ (Tree.kind t))) = true) ∧ ((decide ((2 : Int) ≤ (Tree.kind t))) = true → (decide ((2 : Int) ≤ (Tree.kind t))) = true) ∧ (((decide ((2 : Int) ≤ (Tree.kind t))) = true → (decide ((2 : Int) ≤ (Tree.kind t))) = true)) ∧ (((!((bif (decide ((2 : Int) ≤ (Tree.kind t))) then (decide (((Tree.kind t) : Int) ≤ 7)) else false) != (((Tree.kind (List.getD (Tree.kids t) (Int.toNat x5) Tree.nil)) : Int) == 10))) = true → (!((bif (decide ((2 : Int) ≤ (Tree.kind t))) then (decide (((Tree.kind t) : Int) ≤ 7)) else false) != (((Tree.kind (List.getD (Tree.kids t) (Int.toNat x5) Tree.nil)) : Int) == 10))) = true) ∧ ((!((bif (decide ((2 : Int) ≤ (Tree.kind t))) then (decide (((Tree.kind t) : Int) ≤ 7)) else false) != (((Tree.kind (List.getD (Tree.kids t) (Int.toNat x5) Tree.nil)) : Int) == 10))) = true → (!((bif (decide ((2 : Int) ≤ (Tree.kind t))) then (decide (((Tree.kind t) : Int) ≤ 7)) else false) != (((Tree.kind (List.getD (Tree.kids t) (Int.toNat x5) Tree.nil)) : Int) == 10))) = true) ∧ ((!((bif (decide ((2 : Int) ≤ (Tree.kind t))) then (decide (((Tree.kind t) : Int) ≤ 7)) else false) != (((Tree.kind (List.getD (Tree.kids t) (Int.toNat x5) Tree.nil)) : Int) == 10))) = true → (!((bif (decide ((2 : Int) ≤ (Tree.kind t))) then (decide (((Tree.kind t) : Int) ≤ 7)) else false) != (((Tree.kind (List.getD (Tree.kids t) (Int.toNat x5) Tree.nil)) : Int) == 10))) = true) ∧ (((!((bif (decide ((2 : Int) ≤ (Tree.kind t))) then (decide (((Tree.kind t) : Int) ≤ 7)) else false) != (((Tree.kind (List.getD (Tree.kids t) (Int.toNat x5) Tree.nil)) : Int) == 10))) && (((Tree.kind t) : Int) == 9)) = true → ((!((bif (decide ((2 : Int) ≤ (Tree.kind t))) then (decide (((Tree.kind t) : Int) ≤ 7)) else false) != (((Tree.kind (List.getD (Tree.kids t) (Int.toNat x5) Tree.nil)) : Int) == 10))) && (((Tree.kind t) : Int) == 9)) = true) ∧ (((!((bif (decide ((2 : Int) ≤ (Tree.kind t))) then (decide (((Tree.kind t) : Int) ≤ 7)) else false) != (((Tree.kind (List.getD (Tree.kids t) (Int.toNat x5) Tree.nil)) : Int) == 10))) && (((Tree.kind t) : Int) == 9)) = true → ((!((bif (decide ((2 : Int) ≤ (Tree.kind t))) then (decide (((Tree.kind t) : Int) ≤ 7)) else false) != (((Tree.kind (List.getD (Tree.kids t) (Int.toNat x5) Tree.nil)) : Int) == 10))) && (((Tree.kind t) : Int) == 9)) = true) ∧ ((!((bif (decide ((2 : Int) ≤ (Tree.kind t))) then (decide (((Tree.kind t) : Int) ≤ 7)) else false) != (((Tree.kind (List.getD (Tree.kids t) (Int.toNat x5) Tree.nil)) : Int) == 10))) = true → (True → (!((bif (decide ((2 : Int) ≤ (Tree.kind t))) then (decide (((Tree.kind t) : Int) ≤ 7)) else false) != (((Tree.kind (List.getD (Tree.kids t) (Int.toNat x5) Tree.nil)) : Int) == 10))) = true)) ∧ ((!((bif (decide ((2 : Int) ≤ (Tree.kind t))) then (decide (((Tree.kind t) : Int) ≤ 7)) else false) != (((Tree.kind (List.getD (Tree.kids t) (Int.toNat x5) Tree.nil)) : Int) == 10))) = true → ((((Tree.kind t) : Int) == 9) = true → ((!((bif (decide ((2 : Int) ≤ (Tree.kind t))) then (decide (((Tree.kind t) : Int) ≤ 7)) else false) != (((Tree.kind (List.getD (Tree.kids t) (Int.toNat x5) Tree.nil)) : Int) == 10))) && (((Tree.kind t) : Int) == 9)) = true)) ∧ ((((bif (decide ((2 : Int) ≤ (Tree.kind t))) then (decide (((Tree.kind t) : Int) ≤ 7)) else false) != (((Tree.kind (List.getD (Tree.kids t) (Int.toNat x5) Tree.nil)) : Int) == 10)) = false → (!((bif (decide ((2 : Int) ≤ (Tree.kind t))) then (decide (((Tree.kind t) : Int) ≤ 7)) else false) != (((Tree.kind (List.getD (Tree.kids t) (Int.toNat x5) Tree.nil)) : Int) == 10))) = true)) ∧ ((!(bif ((bif (decide ((2 : Int) ≤ (Tree.kind t))) then (decide (((Tree.kind t) : Int) ≤ 7)) else false) != (((Tree.kind (List.getD (Tree.kids t) (Int.toNat x5) Tree.nil)) : Int) == 10)) then true else (bif (((Tree.kind t) : Int) == 9) then (((Tree.kind (List.getD (Tree.kids t) (Int.toNat x5) Tree.nil)) : Int) != 1) else false))) = true → (!(bif ((bif (decide ((2 : Int) ≤ (Tree.kind t))) then (decide (((Tree.kind t) : Int) ≤ 7)) else false) != (((Tree.kind (List.getD (Tree.kids t) (Int.toNat x5) Tree.nil)) : Int) == 10)) then true else (bif (((Tree.kind t) : Int) == 9) then (((Tree.kind (List.getD (Tree.kids t) (Int.toNat x5) Tree.nil)) : Int) != 1) else false))) = true) ∧ (((!(bif ((bif (decide ((2 : Int) ≤ (Tree.kind t))) then (decide (((Tree.kind t) : Int) ≤ 7)) else false) != (((Tree.kind (List.getD (Tree.kids t) (Int.toNat x5) Tree.nil)) : Int) == 10)) then true else (bif (((Tree.kind t) : Int) == 9) then (((Tree.kind (List.getD (Tree.kids t) (Int.toNat x5) Tree.nil)) : Int) != 1) else false))) && (bif (decide ((2 : Int) ≤ (Tree.kind t))) then (decide (((Tree.kind t) : Int) ≤ 7)) else false)) = true → ((!(bif ((bif (decide ((2 : Int) ≤ (Tree.kind t))) then (decide (((Tree.kind t) : Int) ≤ 7)) else false) != (((Tree.kind (List.getD (Tree.kids t) (Int.toNat x5) Tree.nil)) : Int) == 10)) then true else (bif (((Tree.kind t) : Int) == 9) then (((Tree.kind (List.getD (Tree.kids t) (Int.toNat x5) Tree.nil)) : Int) != 1) else false))) && (bif (decide ((2 : Int) ≤ (Tree.kind t))) then (decide (((Tree.kind t) : Int) ≤ 7)) else false)) = true) ∧ (((!(bif ((bif (decide ((2 : Int) ≤ (Tree.kind t))) then (decide (((Tree.kind t) : Int) ≤ 7)) else false) != (((Tree.kind (List.getD (Tree.kids t) (Int.toNat x5) Tree.nil)) : Int) == 10)) then true else (bif (((Tree.kind t) : Int) == 9) then (((Tree.kind (List.getD (Tree.kids t) (Int.toNat x5) Tree.nil)) : Int) != 1) else false))) && (bif (decide ((2 : Int) ≤ (Tree.kind t))) then (decide (((Tree.kind t) : Int) ≤ 7)) else false)) = true → ((!(bif ((bif (decide ((2 : Int) ≤ (Tree.kind t))) then (decide (((Tree.kind t) : Int) ≤ 7)) else false) != (((Tree.kind (List.getD (Tree.kids t) (Int.toNat x5) Tree.nil)) : Int) == 10)) then true else (bif (((Tree.kind t) : Int) == 9) then (((Tree.kind (List.getD (Tree.kids t) (Int.toNat x5) Tree.nil)) : Int) != 1) else false))) && (bif (decide ((2 : Int) ≤ (Tree.kind t))) then (decide (((Tree.kind t) : Int) ≤ 7)) else false)) = true) ∧ (((!(bif ((bif (decide ((2 : Int) ≤ (Tree.kind t))) then (decide (((Tree.kind t) : Int) ≤ 7)) else false) != (((Tree.kind (List.getD (Tree.kids t) (Int.toNat x5) Tree.nil)) : Int) == 10)) then true else (bif (((Tree.kind t) : Int) == 9) then (((Tree.kind (List.getD (Tree.kids t) (Int.toNat x5) Tree.nil)) : Int) != 1) else false))) && (bif (decide ((2 : Int) ≤ (Tree.kind t))) then (decide (((Tree.kind t) : Int) ≤ 7)) else false)) = true → InR (((Tree.kind t) : Int) - 2)) ∧ (((!(bif ((bif (decide ((2 : Int) ≤ (Tree.kind t))) then (decide (((Tree.kind t) : Int) ≤ 7)) else false) != (((Tree.kind (List.getD (Tree.kids t) (Int.toNat x5) Tree.nil)) : Int) == 10)) then true else (bif (((Tree.kind t) : Int) == 9) then (((Tree.kind (List.getD (Tree.kids t) (Int.toNat x5) Tree.nil)) : Int) != 1) else false))) && (bif (decide ((2 : Int) ≤ (Tree.kind t))) then (decide (((Tree.kind t) : Int) ≤ 7)) else false)) = true → ((!(bif ((bif (decide ((2 : Int) ≤ (Tree.kind t))) then (decide (((Tree.kind t) : Int) ≤ 7)) else false) != (((Tree.kind (List.getD (Tree.kids t) (Int.toNat x5) Tree.nil)) : Int) == 10)) then true else (bif (((Tree.kind t) : Int) == 9) then (((Tree.kind (List.getD (Tree.kids t) (Int.toNat x5) Tree.nil)) : Int) != 1) else false))) && (bif (decide ((2 : Int) ≤ (Tree.kind t))) then (decide (((Tree.kind t) : Int) ≤ 7)) else false)) = true) ∧ (((!(bif ((bif (decide ((2 : Int) ≤ (Tree.kind t))) then (decide (((Tree.kind t) : Int) ≤ 7)) else false) != (((Tree.kind (List.getD (Tree.kids t) (Int.toNat x5) Tree.nil)) : Int) == 10)) then true else (bif (((Tree.kind t) : Int) == 9) then (((Tree.kind (List.getD (Tree.kids t) (Int.toNat x5) Tree.nil)) : Int) != 1) else false))) && (bif (decide ((2 : Int) ≤ (Tree.kind t))) then (decide (((Tree.kind t) : Int) ≤ 7)) else false)) = true → ((!(bif ((bif (decide ((2 : Int) ≤ (Tree.kind t))) then (decide (((Tree.kind t) : Int) ≤ 7)) else false) != (((Tree.kind (List.getD (Tree.kids t) (Int.toNat x5) Tree.nil)) : Int) == 10)) then true else (bif (((Tree.kind t) : Int) == 9) then (((Tree.kind (List.getD (Tree.kids t) (Int.toNat x5) Tree.nil)) : Int) != 1) else false))) && (bif (decide ((2 : Int) ≤ (Tree.kind t))) then (decide (((Tree.kind t) : Int) ≤ 7)) else false)) = true) ∧ (((!(bif ((bif (decide ((2 : Int) ≤ (Tree.kind t))) then (decide (((Tree.kind t) : Int) ≤ 7)) else false) != (((Tree.kind (List.getD (Tree.kids t) (Int.toNat x5) Tree.nil)) : Int) == 10)) then true else (bif (((Tree.kind t) : Int) == 9) then (((Tree.kind (List.getD (Tree.kids t) (Int.toNat x5) Tree.nil)) : Int) != 1) else false))) && (bif (decide ((2 : Int) ≤ (Tree.kind t))) then (decide (((Tree.kind t) : Int) ≤ 7)) else false)) = true → (0 : Int) ≤ 0 ∧ 0 < ((Tree.words (List.getD (Tree.kids t) (Int.toNat x5) Tree.nil)).length : Int)) ∧ (((!(bif ((bif (decide ((2 : Int) ≤ (Tree.kind t))) then (decide (((Tree.kind t) : Int) ≤ 7)) else false) != (((Tree.kind (List.getD (Tree.kids t) (Int.toNat x5) Tree.nil)) : Int) == 10)) then true else (bif (((Tree.kind t) : Int) == 9) then (((Tree.kind (List.getD (Tree.kids t) (Int.toNat x5) Tree.nil)) : Int) != 1) else false))) && (bif (decide ((2 : Int) ≤ (Tree.kind t))) then (decide (((Tree.kind t) : Int) ≤ 7)) else false)) = true → ((!(bif ((bif (decide ((2 : Int) ≤ (Tree.kind t))) then (decide (((Tree.kind t) : Int) ≤ 7)) else false) != (((Tree.kind (List.getD (Tree.kids t) (Int.toNat x5) Tree.nil)) : Int) == 10)) then true else (bif (((Tree.kind t) : Int) == 9) then (((Tree.kind (List.getD (Tree.kids t) (Int.toNat x5) Tree.nil)) : Int) != 1) else false))) && (bif (decide ((2 : Int) ≤ (Tree.kind t))) then (decide (((Tree.kind t) : Int) ≤ 7)) else false)) = true) ∧ (((!(bif ((bif (decide ((2 : Int) ≤ (Tree.kind t))) then (decide (((Tree.kind t) : Int) ≤ 7)) else false) != (((Tree.kind (List.getD (Tree.kids t) (Int.toNat x5) Tree.nil)) : Int) == 10)) then true else (bif (((Tree.kind t) : Int) == 9) then (((Tree.kind (List.getD (Tree.kids t) (Int.toNat x5) Tree.nil)) : Int) != 1) else false))) && (bif (decide ((2 : Int) ≤ (Tree.kind t))) then (decide (((Tree.kind t) : Int) ≤ 7)) else false)) = true → ((!(bif ((bif (decide ((2 : Int) ≤ (Tree.kind t))) then (decide (((Tree.kind t) : Int) ≤ 7)) else false) != (((Tree.kind (List.getD (Tree.kids t) (Int.toNat x5) Tree.nil)) : Int) == 10)) then true else (bif (((Tree.kind t) : Int) == 9) then (((Tree.kind (List.getD (Tree.kids t) (Int.toNat x5) Tree.nil)) : Int) != 1) else false))) && (bif (decide ((2 : Int) ≤ (Tree.kind t))) then (decide (((Tree.kind t) : Int) ≤ 7)) else false)) = true) ∧ (((!(bif ((bif (decide ((2 : Int) ≤ (Tree.kind t))) then (decide (((Tree.kind t) : Int) ≤ 7)) else false) != (((Tree.kind (List.getD (Tree.kids t) (Int.toNat x5) Tree.nil)) : Int) == 10)) then true else (bif (((Tree.kind t) : Int) == 9) then (((Tree.kind (List.getD (Tree.kids t) (Int.toNat x5) Tree.nil)) : Int) != 1) else false))) && (bif (decide ((2 : Int) ≤ (Tree.kind t))) then (decide (((Tree.kind t) : Int) ≤ 7)) else false)) = true → ((!(bif ((bif (decide ((2 : Int) ≤ (Tree.kind t))) then (decide (((Tree.kind t) : Int) ≤ 7)) else false) != (((Tree.kind (List.getD (Tree.kids t) (Int.toNat x5) Tree.nil)) : Int) == 10)) then true else (bif (((Tree.kind t) : Int) == 9) then (((Tree.kind (List.getD (Tree.kids t) (Int.toNat x5) Tree.nil)) : Int) != 1) else false))) && (bif (decide ((2 : Int) ≤ (Tree.kind t))) then (decide (((Tree.kind t) : Int) ≤ 7)) else false)) = true) ∧ (((!(bif ((bif (decide ((2 : Int) ≤ (Tree.kind t))) then (decide (((Tree.kind t) : Int) ≤ 7)) else false) != (((Tree.kind (List.getD (Tree.kids t) (Int.toNat x5) Tree.nil)) : Int) == 10)) then true else (bif (((Tree.kind t) : Int) == 9) then (((Tree.kind (List.getD (Tree.kids t) (Int.toNat x5) Tree.nil)) : Int) != 1) else false))) && (bif (decide ((2 : Int) ≤ (Tree.kind t))) then (decide (((Tree.kind t) : Int) ≤ 7)) else false)) = true → pre81 ((((Tree.kind t) : Int) - 2), (List.getD (Tree.words (List.getD (Tree.kids t) (Int.toNat x5) Tree.nil)) (Int.toNat 0) (0 : Int)), ())) ∧ (((!(bif ((bif (decide ((2 : Int) ≤ (Tree.kind t))) then (decide (((Tree.kind t) : Int) ≤ 7)) else false) != (((Tree.kind (List.getD (Tree.kids t) (Int.toNat x5) Tree.nil)) : Int) == 10)) then true else (bif (((Tree.kind t) : Int) == 9) then (((Tree.kind (List.getD (Tree.kids t) (Int.toNat x5) Tree.nil)) : Int) != 1) else false))) && (bif (decide ((2 : Int) ≤ (Tree.kind t))) then (decide (((Tree.kind t) : Int) ≤ 7)) else false)) = true → ((!(bif ((bif (decide ((2 : Int) ≤ (Tree.kind t))) then (decide (((Tree.kind t) : Int) ≤ 7)) else false) != (((Tree.kind (List.getD (Tree.kids t) (Int.toNat x5) Tree.nil)) : Int) == 10)) then true else (bif (((Tree.kind t) : Int) == 9) then (((Tree.kind (List.getD (Tree.kids t) (Int.toNat x5) Tree.nil)) : Int) != 1) else false))) && (bif (decide ((2 : Int) ≤ (Tree.kind t))) then (decide (((Tree.kind t) : Int) ≤ 7)) else false)) = true) ∧ ((!(bif ((bif (decide ((2 : Int) ≤ (Tree.kind t))) then (decide (((Tree.kind t) : Int) ≤ 7)) else false) != (((Tree.kind (List.getD (Tree.kids t) (Int.toNat x5) Tree.nil)) : Int) == 10)) then true else (bif (((Tree.kind t) : Int) == 9) then (((Tree.kind (List.getD (Tree.kids t) (Int.toNat x5) Tree.nil)) : Int) != 1) else false))) = true → (True → (!(bif ((bif (decide ((2 : Int) ≤ (Tree.kind t))) then (decide (((Tree.kind t) : Int) ≤ 7)) else false) != (((Tree.kind (List.getD (Tree.kids t) (Int.toNat x5) Tree.nil)) : Int) == 10)) then true else (bif (((Tree.kind t) : Int) == 9) then (((Tree.kind (List.getD (Tree.kids t) (Int.toNat x5) Tree.nil)) : Int) != 1) else false))) = true)) ∧ ((!(bif ((bif (decide ((2 : Int) ≤ (Tree.kind t))) then (decide (((Tree.kind t) : Int) ≤ 7)) else false) != (((Tree.kind (List.getD (Tree.kids t) (Int.toNat x5) Tree.nil)) : Int) == 10)) then true else (bif (((Tree.kind t) : Int) == 9) then (((Tree.kind (List.getD (Tree.kids t) (Int.toNat x5) Tree.nil)) : Int) != 1) else false))) = true → ((bif (decide ((2 : Int) ≤ (Tree.kind t))) then (decide (((Tree.kind t) : Int) ≤ 7)) else false) = true → ((!(bif ((bif (decide ((2 : Int) ≤ (Tree.kind t))) then (decide (((Tree.kind t) : Int) ≤ 7)) else false) != (((Tree.kind (List.getD (Tree.kids t) (Int.toNat x5) Tree.nil)) : Int) == 10)) then true else (bif (((Tree.kind t) : Int) == 9) then (((Tree.kind (List.getD (Tree.kids t) (Int.toNat x5) Tree.nil)) : Int) != 1) else false))) && (bif (decide ((2 : Int) ≤ (Tree.kind t))) then (decide (((Tree.kind t) : Int) ≤ 7)) else false)) = true)) ∧ (((bif ((bif (decide ((2 : Int) ≤ (Tree.kind t))) then (decide (((Tree.kind t) : Int) ≤ 7)) else false) != (((Tree.kind (List.getD (Tree.kids t) (Int.toNat x5) Tree.nil)) : Int) == 10)) then true else (bif (((Tree.kind t) : Int) == 9) then (((Tree.kind (List.getD (Tree.kids t) (Int.toNat x5) Tree.nil)) : Int) != 1) else false)) = false → (!(bif ((bif (decide ((2 : Int) ≤ (Tree.kind t))) then (decide (((Tree.kind t) : Int) ≤ 7)) else false) != (((Tree.kind (List.getD (Tree.kids t) (Int.toNat x5) Tree.nil)) : Int) == 10)) then true else (bif (((Tree.kind t) : Int) == 9) then (((Tree.kind (List.getD (Tree.kids t) (Int.toNat x5) Tree.nil)) : Int) != 1) else false))) = true)) ∧ (((bif (bif ((bif (decide ((2 : Int) ≤ (Tree.kind t))) then (decide (((Tree.kind t) : Int) ≤ 7)) else false) != (((Tree.kind (List.getD (Tree.kids t) (Int.toNat x5) Tree.nil)) : Int) == 10)) then true else (bif (((Tree.kind t) : Int) == 9) then (((Tree.kind (List.getD (Tree.kids t) (Int.toNat x5) Tree.nil)) : Int) != 1) else false)) then true else (bif (bif (decide ((2 : Int) ≤ (Tree.kind t))) then (decide (((Tree.kind t) : Int) ≤ 7)) else false) then (!(fits (((Tree.kind t) : Int) - 2) (List.getD (Tree.words (List.getD (Tree.kids t) (Int.toNat x5) Tree.nil)) (Int.toNat 0) (0 : Int)))) else false)) = true → (Q .ret (⟨[(4, .c (.bool false))], [], []⟩ : LSt U))) ∧ ((bif (bif ((bif (decide ((2 : Int) ≤ (Tree.kind t))) then (decide (((Tree.kind t) : Int) ≤ 7)) else false) != (((Tree.kind (List.getD (Tree.kids t) (Int.toNat x5) Tree.nil)) : Int) == 10)) then true else (bif (((Tree.kind t) : Int) == 9) then (((Tree.kind (List.getD (Tree.kids t) (Int.toNat x5) Tree.nil)) : Int) != 1) else false)) then true else (bif (bif (decide ((2 : Int) ≤ (Tree.kind t))) then (decide (((Tree.kind t) : Int) ≤ 7)) else false) then (!(fits (((Tree.kind t) : Int) - 2) (List.getD (Tree.words (List.getD (Tree.kids t) (Int.toNat x5) Tree.nil)) (Int.toNat 0) (0 : Int)))) else false)) = false → (InR ((x5 : Int) + 1)) ∧ (N0 (head47_0 t d ((x5 : Int) + 1)))))))))) ∧ ((decide ((x5 : Int) < ((Tree.kids t).length : Int))) = false → (Q .ret (⟨[(4, .c (.bool true))], [], []⟩ : LSt U))))) := by kernel_rfl
  exact e.mpr ⟨fun c_26 => ⟨(h.1 c_26).1, ⟨(h.1 c_26).2.1, (h.1 c_26).2.2.1, (h.1 c_26).2.2.2.1, ⟨fun c_27 => ((h.1 c_26).2.2.2.2.1 c_27), fun c_27 => ⟨fun x => x, fun x => x, (by generalize (decide ((2 : Int) ≤ (Tree.kind t))) = b0; revert b0; decide), ⟨fun x => x, fun x => x, fun x => x, fun x => x, fun x => x, (by generalize ((bif (decide ((2 : Int) ≤ (Tree.kind t))) then (decide (((Tree.kind t) : Int) ≤ 7)) else false) != (((Tree.kind (List.getD (Tree.kids t) (Int.toNat x5) Tree.nil)) : Int) == 10)) = b0; revert b0; decide), (by generalize ((bif (decide ((2 : Int) ≤ (Tree.kind t))) then (decide (((Tree.kind t) : Int) ≤ 7)) else false) != (((Tree.kind (List.getD (Tree.kids t) (Int.toNat x5) Tree.nil)) : Int) == 10)) = b0; generalize (((Tree.kind t) : Int) == 9) = b1; revert b0 b1; decide), (by generalize ((bif (decide ((2 : Int) ≤ (Tree.kind t))) then (decide (((Tree.kind t) : Int) ≤ 7)) else false) != (((Tree.kind (List.getD (Tree.kids t) (Int.toNat x5) Tree.nil)) : Int) == 10)) = b0; revert b0; decide), fun x => x, fun x => x, fun x => x, ((h.1 c_26).2.2.2.2.2 c_27).1, fun x => x, fun x => x, ((h.1 c_26).2.2.2.2.2 c_27).2.1, fun x => x, fun x => x, fun x => x, ((h.1 c_26).2.2.2.2.2 c_27).2.2.1, fun x => x, (by generalize ((bif (decide ((2 : Int) ≤ (Tree.kind t))) then (decide (((Tree.kind t) : Int) ≤ 7)) else false) != (((Tree.kind (List.getD (Tree.kids t) (Int.toNat x5) Tree.nil)) : Int) == 10)) = b0; generalize (((Tree.kind (List.getD (Tree.kids t) (Int.toNat x5) Tree.nil)) : Int) != 1) = b1; generalize (((Tree.kind t) : Int) == 9) = b2; revert b0 b1 b2; decide), (by generalize ((bif (decide ((2 : Int) ≤ (Tree.kind t))) then (decide (((Tree.kind t) : Int) ≤ 7)) else false) != (((Tree.kind (List.getD (Tree.kids t) (Int.toNat x5) Tree.nil)) : Int) == 10)) = b0; generalize (((Tree.kind (List.getD (Tree.kids t) (Int.toNat x5) Tree.nil)) : Int) != 1) = b1; generalize (decide ((2 : Int) ≤ (Tree.kind t))) = b2; generalize (decide (((Tree.kind t) : Int) ≤ 7)) = b3; generalize (((Tree.kind t) : Int) == 9) = b4; revert b0 b1 b2 b3 b4; decide), (by generalize ((bif (decide ((2 : Int) ≤ (Tree.kind t))) then (decide (((Tree.kind t) : Int) ≤ 7)) else false) != (((Tree.kind (List.getD (Tree.kids t) (Int.toNat x5) Tree.nil)) : Int) == 10)) = b0; generalize (((Tree.kind (List.getD (Tree.kids t) (Int.toNat x5) Tree.nil)) : Int) != 1) = b1; generalize (((Tree.kind t) : Int) == 9) = b2; revert b0 b1 b2; decide), ⟨fun c_28 => (((h.1 c_26).2.2.2.2.2 c_27).2.2.2.1 c_28), fun c_28 => ⟨(((h.1 c_26).2.2.2.2.2 c_27).2.2.2.2 c_28).1, (((h.1 c_26).2.2.2.2.2 c_27).2.2.2.2 c_28).2⟩⟩⟩⟩⟩⟩⟩, fun c_26 => (h.2 c_26)⟩
def Body47 (N : Nat) (t : Tree) (d : Int)  : Prop := awp cfg (know (know47 N)) (drawOk cfg (know (know47 N))) Try.f47.ntmps lv47 (cd Try.f47 []) (entry (args47.can (t, d, ())) []) (EndsQ cfg Try.f47.ntmps Try.f47.results.toList (res47 (t, d, ())) [])
theorem make47 (c81 : Contract Try.prog cfg 81 spec81) (hb : ∀ (N : Nat) (t : Tree) (d : Int) (_ : Unit), pre47 (t, d, ()) → mu47 (t, d, ()) < N + 1 → Body47 N t d) : Contract Try.prog cfg 47 spec47 :=
  contract_rec (μ := mu47) (l := [(81, spec81)]) cfgOk rfl (⟨c81, trivial⟩) lv47 Try.func47 rfl rfl 2 (fun _ => rfl) (by decide) (fun N ⟨t, d, _⟩ => hb N t d ())

end Go.AM.Ytlahjnelghpmeaa

namespace Go.AM.Ytlahjnelghpmeaa
open Go.AM Go.Proofs

theorem trim_nil_iff : ∀ (l : List Int), trim l = [] ↔ ∀ i : Nat, l.getD i 0 = 0
  | [] => by simp [trim]
  | x :: r => by
    have ih := trim_nil_iff r
    constructor
    · intro h i
      simp only [trim] at h
      split at h
      · rename_i hr
        split at h
        · cases i with
          | zero => simpa
          | succ i => simpa using (ih.1 hr) i
        · cases h
      · cases h
    · intro h
      have h0 := h 0
      have hr : trim r = [] := ih.2 fun i => by simpa using h (i + 1)
      simp only [trim, hr]
      simp at h0
      simp [h0]

theorem trim_cons (x : Int) (r : List Int) : trim (x :: r) = if trim r = [] ∧ x = 0 then [] else x :: trim r := by
  simp only [trim]
  split
  · rename_i h
    simp only [h]
    split <;> simp_all
  · rename_i h
    simp [h]

theorem trim_eq_iff : ∀ (a b : List Int), trim a = trim b ↔ ∀ i : Nat, a.getD i 0 = b.getD i 0
  | [], b => by
    rw [show trim [] = [] from rfl, eq_comm, trim_nil_iff]
    simp [eq_comm]
  | x :: r, [] => by
    rw [show trim [] = [] from rfl, trim_nil_iff]
    simp
  | x :: r, y :: s => by
    have ih := trim_eq_iff r s
    constructor
    · intro h i
      have key : x = y ∧ trim r = trim s := by
        rw [trim_cons, trim_cons] at h
        split at h <;> split at h <;> simp_all
      cases i with
      | zero => simpa using key.1
      | succ i => simpa using ih.1 key.2 i
    · intro h
      have h0 : x = y := by simpa using h 0
      have hr : trim r = trim s := ih.2 fun i => by simpa using h (i + 1)
      rw [trim_cons, trim_cons, h0, hr]

def Nils (l : List Tree) : Prop := ∀ x ∈ l, x.kind = 0 → x = Tree.nil

theorem trimK_cons (x : Tree) (r : List Tree) : trimK (x :: r) = if trimK r = [] ∧ x.kind = 0 then [] else x :: trimK r := by
  simp only [trimK]
  split
  · rename_i h
    simp only [h]
    split <;> simp_all
  · rename_i h
    simp [h]

theorem trimK_nil_iff : ∀ (l : List Tree), Nils l → (trimK l = [] ↔ ∀ i : Nat, l.getD i Tree.nil = Tree.nil)
  | [], _ => by simp [trimK]
  | x :: r, hn => by
    have ih := trimK_nil_iff r (fun y hy => hn y (List.mem_cons_of_mem _ hy))
    have hx := hn x (List.mem_cons_self ..)
    rw [trimK_cons]
    constructor
    · intro h i
      split at h
      · rename_i hc
        cases i with
        | zero => simpa using hx hc.2
        | succ i => simpa using (ih.1 hc.1) i
      · cases h
    · intro h
      have h0 : x = Tree.nil := by simpa using h 0
      have hr : trimK r = [] := ih.2 fun i => by simpa using h (i + 1)
      rw [if_pos ⟨hr, by rw [h0]; rfl⟩]

theorem trimK_eq_iff : ∀ (a b : List Tree), Nils a → Nils b → (trimK a = trimK b ↔ ∀ i : Nat, a.getD i Tree.nil = b.getD i Tree.nil)
  | [], b, _, hb => by
    rw [show trimK [] = [] from rfl, eq_comm, trimK_nil_iff b hb]
    simp [eq_comm]
  | x :: r, [], ha, _ => by
    rw [show trimK [] = [] from rfl, trimK_nil_iff _ ha]
    simp
  | x :: r, y :: s, ha, hb => by
    have ih := trimK_eq_iff r s (fun y hy => ha y (List.mem_cons_of_mem _ hy)) (fun y hy => hb y (List.mem_cons_of_mem _ hy))
    have hx := ha x (List.mem_cons_self ..)
    have hy := hb y (List.mem_cons_self ..)
    constructor
    · intro h i
      have key : x = y ∧ trimK r = trimK s := by
        rw [trimK_cons, trimK_cons] at h
        split at h <;> split at h
        · rename_i h1 h2
          exact ⟨(hx h1.2).trans (hy h2.2).symm, h1.1.trans h2.1.symm⟩
        · cases h
        · cases h
        · simpa using h
      cases i with
      | zero => simpa using key.1
      | succ i => simpa using ih.1 key.2 i
    · intro h
      have h0 : x = y := by simpa using h 0
      have hr : trimK r = trimK s := ih.2 fun i => by simpa using h (i + 1)
      rw [trimK_cons, trimK_cons, h0, hr]

theorem normT_nil : normT Tree.nil = Tree.nil := by simp [Tree.nil, normT]

theorem normT_kind (t : Tree) : (normT t).kind = t.kind := by
  obtain ⟨k, w, ks⟩ := t
  simp only [normT]
  split
  · rename_i h; simp [h, Tree.nil]
  · split
    · rename_i h; simp [h]
    · rfl

theorem normK_nils : ∀ (l : List Tree), Nils (normK l)
  | [] => by intro x hx; simp [normK] at hx
  | t :: r => by
    intro x hx hk
    simp only [normK, List.mem_cons] at hx
    rcases hx with rfl | hx
    · rw [normT_kind] at hk
      obtain ⟨k, w, ks⟩ := t
      simp only [Tree.kind_mk] at hk
      simp [normT, hk]
    · exact normK_nils r x hx hk

theorem normK_getD : ∀ (l : List Tree) (i : Nat), (normK l).getD i Tree.nil = normT (l.getD i Tree.nil)
  | [], i => by simp [normK, normT_nil]
  | t :: r, 0 => by simp [normK]
  | t :: r, i + 1 => by simpa [normK] using normK_getD r i

theorem normK_eq_iff (a b : List Tree) : normK a = normK b ↔ a.length = b.length ∧ ∀ i : Nat, normT (a.getD i Tree.nil) = normT (b.getD i Tree.nil) := by
  constructor
  · intro h
    refine ⟨by rw [← normK_len a, h, normK_len], fun i => ?_⟩
    rw [← normK_getD, h, normK_getD]
  · rintro ⟨hl, h⟩
    apply List.ext_getElem (by rw [normK_len, normK_len, hl])
    intro i h1 h2
    have := h i
    rw [← normK_getD, ← normK_getD] at this
    simpa [List.getD, h1, h2] using this

theorem normT_eq_iff (a b : Tree) : normT a = normT b ↔ a.kind = b.kind ∧ (a.kind = 0 ∨ (if a.kind = 1 then (∀ i : Nat, a.words.getD i 0 = b.words.getD i 0) else a.words = b.words ∧ a.kids.length = b.kids.length) ∧ ∀ i : Nat, normT (a.kids.getD i Tree.nil) = normT (b.kids.getD i Tree.nil)) := by
  obtain ⟨k, w, ks⟩ := a
  obtain ⟨k', w', ks'⟩ := b
  show _ ↔ k = k' ∧ (k = 0 ∨ (if k = 1 then (∀ i : Nat, w.getD i 0 = w'.getD i 0) else w = w' ∧ ks.length = ks'.length) ∧ ∀ i : Nat, normT (ks.getD i Tree.nil) = normT (ks'.getD i Tree.nil))
  by_cases hk : k = k'
  · subst hk
    simp only [true_and]
    by_cases h0 : k = 0
    · simp [normT, h0]
    · by_cases h1 : k = 1
      · subst h1
        simp only [normT, if_neg h0, if_true, Tree.mk.injEq, true_and, trim_eq_iff, trimK_eq_iff _ _ (normK_nils _) (normK_nils _), normK_getD]
        simp
      · simp only [normT, if_neg h0, if_neg h1, Tree.mk.injEq, true_and, normK_eq_iff]
        constructor
        · rintro ⟨h2, h3, h4⟩; exact .inr ⟨⟨h2, h3⟩, h4⟩
        · rintro (h | ⟨⟨h2, h3⟩, h4⟩)
          · exact absurd h h0
          · exact ⟨h2, h3, h4⟩
  · simp only [hk, false_and, iff_false]
    intro h
    have := congrArg Tree.kind h
    rw [normT_kind, normT_kind] at this
    exact hk this

end Go.AM.Ytlahjnelghpmeaa

namespace Go.AM.Ytlahjnelghpmeaa
open Go.AM Go.Proofs

theorem words_of_eq {a b : Tree} (h : normT a = normT b) (h0 : a.kind ≠ 0) (i : Nat) : a.words.getD i 0 = b.words.getD i 0 := by
  obtain ⟨_, h2⟩ := (normT_eq_iff a b).1 h
  rcases h2 with h2 | ⟨h2, _⟩
  · exact absurd h2 h0
  · split at h2
    · exact h2 i
    · rw [h2.1]

theorem kids_of_eq {a b : Tree} (h : normT a = normT b) (h0 : a.kind ≠ 0) (i : Nat) : normT (a.kids.getD i Tree.nil) = normT (b.kids.getD i Tree.nil) := by
  obtain ⟨_, h2⟩ := (normT_eq_iff a b).1 h
  rcases h2 with h2 | ⟨_, h2⟩
  · exact absurd h2 h0
  · exact h2 i

theorem kidAt_mass (t : Tree) (i : Int) : mass (kidAt t i) ≤ mass t ∧ (i < t.kids.length → 0 ≤ i → mass (kidAt t i) < mass t) := by
  obtain ⟨k, w, ks⟩ := t
  unfold kidAt
  have h1 : mass Tree.nil = 1 := by simp [Tree.nil, mass, massK]
  split
  · simp only [h1, mass]; omega
  · simp only [Tree.kids_mk]
    by_cases hi : i.toNat < ks.length
    · have := massK_get hi
      simp only [mass]; omega
    · rw [List.getD, List.getElem?_eq_none (by omega)]
      simp only [Option.getD_none, h1, mass]; omega

theorem c34 : Contract Try.prog cfg 34 spec34 := by
  refine make34 c72 c73 c74 ?_
  rintro N a b _ hp hN
  have la : a.words.length + a.kids.length < mass a := by obtain ⟨k, w, ks⟩ := a; have := massK_len ks; simp only [mass, Tree.words_mk, Tree.kids_mk]; omega
  have lb : b.words.length + b.kids.length < mass b := by obtain ⟨k, w, ks⟩ := b; have := massK_len ks; simp only [mass, Tree.words_mk, Tree.kids_mk]; omega
  simp only [pre34, mu34] at hp hN
  have no : ¬ normT a = normT b → EndsQ cfg Try.f34.ntmps Try.f34.results.toList (res34 (a, b, ())) [] .ret (⟨[(4, .c (.bool false))], [], []⟩ : LSt U) := by
    intro h
    have e : sameT (normT a) (normT b) = false := sameT_false.2 h
    simp only [res34, e]
    exact ⟨⟨rfl, ⟨rfl, trivial⟩, trivial⟩, trivial⟩
  refine vc34 N _ _ _ ?_
  (simp only [vcS])
  refine ⟨id, id, id, fun hc => ?_, fun hc => ?_⟩
  · have e : sameT (normT a) (normT b) = (a.kind == b.kind) := by
      by_cases hk : a.kind = b.kind
      · have h0 : a.kind = 0 := by rcases hc with h | h; exact absurd hk h; exact h
        rw [sameT_true.2 ((normT_eq_iff a b).2 ⟨hk, .inl h0⟩)]
        simp [hk]
      · rw [sameT_false.2 (fun h => hk ((normT_eq_iff a b).1 h).1)]
        simp [hk]
    simp only [res34, e]
    exact ⟨⟨rfl, ⟨rfl, trivial⟩, trivial⟩, trivial⟩
  · refine ⟨id, id, id, id, id, id, id, id, id, id, id, fun _ => by simp only [pre72]; omega, id, fun h _ => h, fun h h' => ⟨h, h'⟩, id, fun hd => no ?_, fun hd => ?_⟩
    · intro h
      obtain ⟨_, h2⟩ := (normT_eq_iff a b).1 h
      rcases h2 with h2 | ⟨h2, _⟩
      · exact hc.2 h2
      · rw [if_neg hd.1] at h2
        rcases hd.2 with h3 | h3
        · exact h3 (by omega)
        · exact h3 h2.1
    · refine loop_rule (ι := Int) (fun p => head34_0 a b p) (fun p => 0 ≤ p ∧ p ≤ 2000000000000 ∧ ∀ j : Nat, j < p.toNat → a.words.getD j 0 = b.words.getD j 0) (fun p => (2000000000000 - p).toNat) 0 rfl ⟨by omega, by omega, fun j hj => by simp at hj⟩ ?_
      rintro i ⟨h1, h2, h3⟩
      refine vc34_l0 N _ _ _ _ _ ?_
      (simp only [vcS])
      have wa : ∀ t : Tree, wordAt t i = t.words.getD i.toNat 0 := fun t => by unfold wordAt; rw [if_neg (by omega)]
      refine ⟨fun hi => ⟨trivial, trivial, fun hn => no fun h => hn ?_, fun he => ⟨?_, ?_⟩⟩, fun hi => ?_⟩
      · rw [wa, wa]
        exact words_of_eq h hc.2 _
      · unfold InR; split at hi <;> omega
      · refine ⟨i + 1, rfl, ⟨by omega, by split at hi <;> omega, fun j hj => ?_⟩, by split at hi <;> omega⟩
        by_cases hj' : j < i.toNat
        · exact h3 j hj'
        · have : j = i.toNat := by omega
          rw [this, ← wa, ← wa]
          exact he
      · have hw : ∀ j : Nat, a.words.getD j 0 = b.words.getD j 0 := fun j => by
          by_cases hj : j < i.toNat
          · exact h3 j hj
          · split at hi <;> rw [List.getD, List.getD, List.getElem?_eq_none (by omega), List.getElem?_eq_none (by omega)]
        refine loop_rule (ι := Int) (fun p => head34_1 a b p) (fun p => 0 ≤ p ∧ p ≤ 2000000000000 ∧ ∀ j : Nat, j < p.toNat → normT (a.kids.getD j Tree.nil) = normT (b.kids.getD j Tree.nil)) (fun p => (2000000000000 - p).toNat) 0 rfl ⟨by omega, by omega, fun j hj => by simp at hj⟩ ?_
        rintro q ⟨h5, h6, h7⟩
        refine vc34_l1 N _ _ _ _ _ ?_
        (simp only [vcS])
        have ka : ∀ t : Tree, kidAt t q = t.kids.getD q.toNat Tree.nil := fun t => by unfold kidAt; rw [if_neg (by omega)]
        have ma := kidAt_mass a q
        have mb := kidAt_mass b q
        (simp only [Tree.eta, Edit.eta, Tree.kind_mk, Tree.words_mk, Tree.kids_mk])
        refine ⟨fun hq => ⟨trivial, trivial, ?_, ?_, fun hn => no fun h => ?_, fun he => ⟨?_, ?_⟩⟩, fun hq => ?_⟩
        · simp only [pre34]; omega
        · simp only [mu34]; split at hq <;> omega
        · rw [sameT_false] at hn
          apply hn
          rw [ka, ka]
          exact kids_of_eq h hc.2 _
        · unfold InR; split at hq <;> omega
        · refine ⟨q + 1, rfl, ⟨by omega, by split at hq <;> omega, fun j hj => ?_⟩, by split at hq <;> omega⟩
          by_cases hj' : j < q.toNat
          · exact h7 j hj'
          · have : j = q.toNat := by omega
            rw [this, ← ka, ← ka]
            exact sameT_true.1 he
        · have hk : ∀ j : Nat, normT (a.kids.getD j Tree.nil) = normT (b.kids.getD j Tree.nil) := fun j => by
            by_cases hj : j < q.toNat
            · exact h7 j hj
            · split at hq <;> rw [List.getD, List.getD, List.getElem?_eq_none (by omega), List.getElem?_eq_none (by omega)]
          have e : sameT (normT a) (normT b) = true := by
            rw [sameT_true, normT_eq_iff]
            refine ⟨hc.1, .inr ⟨?_, hk⟩⟩
            split
            · exact hw
            · rename_i h1
              rcases hd with hd | hd
              · exact absurd hd h1
              · exact ⟨hd.2, by have := hd.1; omega⟩
          simp only [res34, e]
          exact ⟨⟨rfl, ⟨rfl, trivial⟩, trivial⟩, trivial⟩

end Go.AM.Ytlahjnelghpmeaa

namespace Go.AM.Ytlahjnelghpmeaa
open Go.AM Go.Proofs

mutual
theorem shallow_mass : ∀ (t : Tree) (d l : Int), 0 ≤ shallow t d l → (mass t : Int) + shallow t d l ≤ l
  | .mk _ w ks, d, l, h => by
    simp only [shallow] at h ⊢
    split at h
    · omega
    · rename_i hc
      rw [if_neg hc]
      have := shallowK_mass ks (d - 1) (l - 1 - w.length) h
      simp only [mass]
      omega
theorem shallowK_mass : ∀ (ks : List Tree) (d l : Int), 0 ≤ shallowK ks d l → (massK ks : Int) + shallowK ks d l ≤ l
  | [], d, l, h => by simp [shallowK, massK]
  | t :: r, d, l, h => by
    simp only [shallowK] at h ⊢
    split at h
    · omega
    · rename_i hc
      rw [if_neg hc]
      have h1 := shallowK_mass r d (shallow t d l) h
      have h3 := (shallowK_range r d (shallow t d l) (shallow_range t d l).1).2
      have h2 := shallow_mass t d l (by omega)
      simp only [massK]
      omega
end

end Go.AM.Ytlahjnelghpmeaa

namespace Go.AM.Ytlahjnelghpmeaa
open Go.AM Go.Proofs

theorem ends_bool {n k : Nat} {rs : List ResultVar} {b b' : Bool} (hr : rs = [ResultVar.tmp k]) (h : b = b') : EndsQ cfg n rs (.c (.bool b')) [] .ret (⟨[(k, .c (.bool b))], [], []⟩ : LSt U) := by
  subst hr h
  have hk : Nat.beq k k = true := Nat.beq_refl k
  simp [EndsQ, Ends, EndsL, LsEnd, resAll, resOne, LSt.toF, look, hk, partsV, resTok, passC, passC1, leR, leL, leC, XEnd]

theorem ends_int {n k : Nat} {rs : List ResultVar} {K : IntKind} {b b' : Int} (hr : rs = [ResultVar.tmp k]) (h : b = b') : EndsQ cfg n rs (.c (.int K b')) [] .ret (⟨[(k, .c (.int K b))], [], []⟩ : LSt U) := by
  subst hr h
  have hk : Nat.beq k k = true := Nat.beq_refl k
  simp [EndsQ, Ends, EndsL, LsEnd, resAll, resOne, LSt.toF, look, hk, partsV, resTok, passC, passC1, leR, leL, leC, XEnd]

theorem c112 : Contract Try.prog cfg 112 spec112 := by
  refine make112 ?_
  intro c _ _
  refine vc112 _ _ ?_
  (simp only [vcS])
  refine ⟨fun h => ends_int rfl ?_, fun h => ⟨fun h => ends_int rfl ?_, fun h => ⟨fun h => ends_int rfl ?_, fun h => ⟨fun h => ends_int rfl ?_, fun h => ⟨fun h => ends_int rfl ?_, fun h => ⟨fun h => ends_int rfl ?_, fun h => ends_int rfl ?_⟩⟩⟩⟩⟩⟩ <;> simp only [wd] <;> simp [*]

theorem wd_le (c : Int) : -1 ≤ wd c ∧ wd c ≤ 64 := by
  unfold wd
  repeat' split
  all_goals omega

theorem wrap64_div (n : Int) (h0 : 0 ≤ n) (h1 : n < 18446744073709551616) : IntKind.wrap .u64 (Int.tdiv n 2) = n / 2 := by
  rw [Int.tdiv_eq_ediv_of_nonneg h0]
  simp [IntKind.wrap, IntKind.signed, IntKind.bits]
  omega

theorem pow_half {w : Nat} {n m : Int} (h : 0 ≤ n) : (n / 2 < 2 ^ w) ↔ n < 2 ^ (w + 1) := by
  have : (2 : Int) ^ (w + 1) = 2 ^ w * 2 := by rw [Int.pow_succ]
  omega

theorem c81 : Contract Try.prog cfg 81 spec81 := by
  refine make81 c112 ?_
  intro c n _ hp
  simp only [pre81] at hp
  have hw := wd_le c
  refine vc81 _ _ _ ?_
  (simp only [vcS])
  refine ⟨trivial, fun h => ends_bool rfl ?_, fun h => ?_⟩
  · simp only [fits]
    simp
    omega
  · refine loop_rule (ι := Int × Int) (fun p => head81_0 c n p.1 p.2) (fun p => 0 ≤ p.2 ∧ p.2 ≤ wd c ∧ 0 ≤ p.1 ∧ p.1 < 18446744073709551616 ∧ (n < 2 ^ (wd c).toNat ↔ p.1 < 2 ^ (wd c - p.2).toNat)) (fun p => (wd c - p.2).toNat) (n, 0) rfl ⟨by dsimp only; omega, by dsimp only; omega, by dsimp only; omega, by dsimp only; omega, by simp⟩ ?_
    rintro ⟨m, i⟩ ⟨h1, h2, h3, h4, h5⟩
    dsimp only at *
    refine vc81_l0 _ _ _ _ _ _ ?_
    (simp only [vcS])
    refine ⟨fun hc => ⟨by omega, by unfold InR; omega, (IntKind.wrap .u64 (Int.tdiv m 2), i + 1), rfl, ?_, by dsimp only; omega⟩, fun hc => ends_bool rfl ?_⟩
    · rw [wrap64_div m h3 h4]
      refine ⟨by dsimp only; omega, by dsimp only; omega, by dsimp only; omega, by dsimp only; omega, ?_⟩
      dsimp only
      rw [h5, show (wd c - i).toNat = (wd c - (i + 1)).toNat + 1 by omega]
      exact (pow_half (m := 0) h3).symm
    · have e : (wd c - i).toNat = 0 := by omega
      rw [e] at h5
      simp only [fits]
      rw [Bool.eq_iff_iff]
      simp
      omega

theorem rng_word {t : Tree} (h : rng t) {i : Nat} (hi : i < t.words.length) : 0 ≤ t.words.getD i 0 ∧ t.words.getD i 0 < 18446744073709551616 := by
  obtain ⟨k, w, ks⟩ := t
  simp only [rng] at h
  simp only [Tree.words_mk] at *
  have hg : w.getD i 0 ∈ w := by
    simp only [List.getD, List.getElem?_eq_getElem hi, Option.getD_some]
    exact List.getElem_mem hi
  exact h.2.1 _ hg

theorem rightK_drop {l : Int} {ks : List Tree} {i : Int} {d : Int} (h0 : 0 ≤ i) (h : i < ks.length) :
    rightK l (ks.drop i.toNat) d = ((kidB l (ks.getD i.toNat Tree.nil) && rightT (ks.getD i.toNat Tree.nil) d) && rightK l (ks.drop (i + 1).toNat) d) := by
  have e : (i + 1).toNat = i.toNat + 1 := by omega
  rw [List.drop_eq_getElem_cons (by omega), e]
  simp only [rightK, List.getD, List.getElem?_eq_getElem (show i.toNat < ks.length by omega), Option.getD_some]

theorem rngK_get : ∀ {ks : List Tree} {i : Nat}, rngK ks → i < ks.length → rng (ks.getD i Tree.nil)
  | t :: _, 0, h, _ => by simp only [rngK] at h; exact h.1
  | _ :: r, i + 1, h, hi => by simp only [rngK] at h; exact rngK_get (ks := r) (i := i) h.2 (by simpa using hi)

theorem rightT_atom {y : Tree} {d : Int} (h : rightT y d = true) (hk : y.kind = 10) : y.words.length = 1 ∧ y.kids.length = 0 := by
  obtain ⟨k, w, ks⟩ := y
  simp only [Tree.kind_mk] at hk
  subst hk
  simpa [rightT] using h

theorem c47 : Contract Try.prog cfg 47 spec47 := by
  refine make47 c81 ?_
  rintro N ⟨k, ws, ks⟩ d _ hp hN
  simp only [pre47, mu47, mass, rng] at hp hN
  refine vc47 N _ _ _ ?_
  (simp only [vcS])
  (simp only [Tree.eta, Edit.eta, Tree.kind_mk, Tree.words_mk, Tree.kids_mk])
  refine ⟨fun h0 => ends_bool rfl ?_, fun h0 => ⟨fun h10 => ends_bool rfl ?_, fun h10 => ⟨fun hc => ends_bool rfl ?_, fun hc => ⟨fun hw => ends_bool rfl ?_, fun hw => ?_⟩⟩⟩⟩
  · simp only [rightT, if_pos h0]
    rw [Bool.eq_iff_iff]; (simp only [vcS]); omega
  · simp only [rightT, if_neg h0, if_pos h10]
    rw [Bool.eq_iff_iff]; (simp only [vcS]); omega
  · simp only [rightT, if_neg h0, if_neg h10]
    split
    · rfl
    · split
      · rw [decide_eq_false (by omega)]; rfl
      · have : ¬(2 ≤ k ∧ k ≤ 9 ∧ ws.length = 0 ∧ ks.length < 1048576) := by omega
        rw [decide_eq_false this]; rfl
  · simp only [rightT, if_neg h0, if_neg h10]
    rw [if_neg (by omega), if_neg (by omega)]
    have : ¬(2 ≤ k ∧ k ≤ 9 ∧ ws.length = 0 ∧ ks.length < 1048576) := by omega
    rw [decide_eq_false this]; rfl
  · have hb : rightT (.mk k ws ks) d = rightK k ks (d - 1) := by
      simp only [rightT, if_neg h0, if_neg h10]
      rw [if_neg (by omega)]
      split
      · rename_i h1
        rw [decide_eq_true (by omega), h1]; rfl
      · have : 2 ≤ k ∧ k ≤ 9 ∧ ws.length = 0 ∧ ks.length < 1048576 := by omega
        rw [decide_eq_true this]; rfl
    refine loop_rule (ι := Int) (fun p => head47_0 (.mk k ws ks) d p) (fun p => 0 ≤ p ∧ p ≤ ks.length ∧ rightT (.mk k ws ks) d = rightK k (ks.drop p.toNat) (d - 1)) (fun p => ((ks.length : Int) - p).toNat) 0 rfl ⟨by omega, by omega, by simpa using hb⟩ ?_
    rintro i ⟨h1, h2, h3⟩
    refine vc47_l0 N _ _ _ _ _ ?_
    (simp only [vcS])
    (simp only [Tree.eta, Edit.eta, Tree.kind_mk, Tree.words_mk, Tree.kids_mk])
    refine ⟨fun hi => ?_, fun hi => ?_⟩
    · have hd := rightK_drop (l := k) (d := d - 1) h1 hi
      have hm := massK_get (ks := ks) (i := i.toNat) (by omega)
      have hr := rngK_get (i := i.toNat) hp.2.1.2.2 (by omega)
      rw [hd] at h3
      have hlen := massK_len ks
      generalize ks.getD i.toNat Tree.nil = y at *
      have hpre : pre47 (y, d - 1, ()) := ⟨by dsimp only; omega, hr, by dsimp only; omega, by dsimp only; omega⟩
      have hmu : mu47 (y, d - 1, ()) < N := by simp only [mu47]; omega
      have hin : InR (d - 1) := by unfold InR; omega
      refine ⟨⟨h1, hi⟩, hin, hpre, hmu, fun hf => ends_bool rfl ?_, fun hf => ?_⟩
      · rw [h3, hf]; simp
      · have hdata : ((bif decide (2 ≤ k) then decide (k ≤ 7) else false) = (y.kind == 10)) ↔ ((2 ≤ k ∧ k ≤ 7) ↔ y.kind = 10) := by
          rw [Bool.eq_iff_iff]; (simp only [vcS])
        have hat := rightT_atom hf
        have hkb : kidB k y = true ↔ (((2 ≤ k ∧ k ≤ 7) ↔ y.kind = 10) ∧ (¬k = 9 ∨ y.kind = 1)) ∧ ((¬2 ≤ k ∨ ¬k ≤ 7) ∨ fits (k - 2) (y.words.getD 0 0) = true) := by
          unfold kidB
          by_cases hk : 2 ≤ k ∧ k ≤ 7
          · rw [if_pos hk]
            (simp only [vcS])
            constructor
            · rintro ⟨h4, h5⟩; exact ⟨⟨by omega, by omega⟩, .inr h5⟩
            · rintro ⟨⟨h4, _⟩, h5⟩
              have := hat (by omega)
              exact ⟨by omega, by rcases h5 with h5 | h5; omega; exact h5⟩
          · rw [if_neg hk]
            by_cases h9 : k = 9
            · rw [if_pos h9]
              (simp only [vcS])
              constructor
              · intro h4; exact ⟨⟨by omega, by omega⟩, .inl (by omega)⟩
              · rintro ⟨⟨_, h4⟩, _⟩; omega
            · rw [if_neg h9]
              (simp only [vcS])
              constructor
              · intro h4; exact ⟨⟨by omega, by omega⟩, .inl (by omega)⟩
              · rintro ⟨⟨h4, _⟩, _⟩; omega
        have hone : ∀ (h4 : (((bif decide (2 ≤ k) then decide (k ≤ 7) else false) = (y.kind == 10) ∧ (¬k = 9 ∨ y.kind = 1)) ∧ 2 ≤ k ∧ k ≤ 7)), y.words.length = 1 := fun h4 => (hat ((hdata.1 h4.1.1).1 h4.2)).1
        simp only [Int.toNat_zero]
        refine ⟨fun h4 => by unfold InR; omega, fun h4 => by have := hone h4; omega, fun h4 => rng_word hr (by have := hone h4; omega), fun h4 => ends_bool rfl ?_, fun h4 => ⟨by unfold InR; omega, i + 1, rfl, ⟨by omega, by omega, ?_⟩, by omega⟩⟩
        · have hno : kidB k y = false := by
            cases hkk : kidB k y with
            | false => rfl
            | true =>
              exfalso
              obtain ⟨h5, h6⟩ := hkb.1 hkk
              rcases h4 with h4 | ⟨h4, h7⟩
              · rcases h4 with h4 | h4
                · exact h4 (hdata.2 h5.1)
                · omega
              · rcases h6 with h6 | h6
                · omega
                · rw [h7] at h6; cases h6
          rw [h3, hno]; rfl
        · rw [h3, hkb.2 ⟨⟨hdata.1 h4.1.1, h4.1.2⟩, h4.2⟩, hf]; rfl
    · rw [List.drop_eq_nil_of_le (by omega)] at h3
      simp only [rightK] at h3
      exact ends_bool rfl h3.symm

theorem few_mass' {t : Tree} (h : 0 ≤ shallow t 80 3000) : mass t ≤ 1000000 := by
  have := shallow_mass t 80 3000 h
  omega

end Go.AM.Ytlahjnelghpmeaa
