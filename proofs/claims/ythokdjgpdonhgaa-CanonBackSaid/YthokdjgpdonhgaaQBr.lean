import Derived.Test.YthokdjgpdonhgaaQL16
import Derived.Test.YthokdjgpdonhgaaVRB07
set_option linter.unusedSimpArgs false
set_option linter.unusedVariables false
namespace Go.AM.Ythokdjgpdonhgaa
open Go.AM Go.Proofs
def sumT (cost : Tree → Int) : List Tree → Int
  | [] => 0
  | t :: r => cost t + sumT cost r
theorem sumT_weight : ∀ l : List Tree, sumT weight l = weightK l
  | [] => by rw [sumT, weightK]
  | t :: r => by rw [sumT, weightK, sumT_weight r]
theorem sumT_pos {cost : Tree → Int} : ∀ {l : List Tree}, (∀ t ∈ l, 0 ≤ cost t) → 0 ≤ sumT cost l
  | [], _ => by rw [sumT]; omega
  | t :: r, h => by rw [sumT]; have := h t List.mem_cons_self; have := sumT_pos fun t ht => h t (List.mem_cons_of_mem _ ht); omega
theorem loopM_list {f : Int → Int → Tree × Int × Int} {cost : Tree → Int} : ∀ (l : List Tree) (i left : Int) (acc : List Tree),
    (∀ j : Nat, j < l.length → ∀ left, cost (l.getD j Tree.nil) ≤ left → f (i + j) left = (l.getD j Tree.nil, left - cost (l.getD j Tree.nil), 0)) → (∀ t ∈ l, 0 ≤ cost t) → sumT cost l ≤ left →
      loopM f l.length i left acc = (acc ++ l, left - sumT cost l, 0)
  | [], i, left, acc, _, _, _ => by simp [loopM, sumT]
  | t :: r, i, left, acc, h, h0, hl => by
    rw [sumT] at hl
    have hr := sumT_pos fun t ht => h0 t (List.mem_cons_of_mem _ ht)
    have h1 := h 0 (by simp) left (by simp; omega)
    simp only [List.getD_cons_zero, Int.natCast_zero, Int.add_zero] at h1
    rw [List.length_cons, loopM, h1]
    dsimp only
    rw [if_pos rfl, loopM_list r (i + 1) (left - cost t) (acc ++ [t]) (fun j hj left hle => ?_) (fun t ht => h0 t (List.mem_cons_of_mem _ ht)) (by omega), sumT]
    · simp only [List.append_assoc, List.singleton_append, Prod.mk.injEq, true_and, and_true]
      omega
    · have := h (j + 1) (by simpa using hj) left (by simpa using hle)
      rw [show i + 1 + (j : Int) = i + ((j + 1 : Nat) : Int) by omega]
      simpa using this
theorem framK_len : ∀ l : List Tree, (framK l).length = l.length
  | [] => by rw [framK]
  | t :: r => by rw [framK, List.length_cons, framK_len r, List.length_cons]
theorem framK_get : ∀ (l : List Tree) (j : Nat), j < l.length → (framK l).getD j Tree.nil = framT (l.getD j Tree.nil)
  | t :: r, 0, _ => by rw [framK]; simp
  | t :: r, j + 1, h => by rw [framK]; simpa using framK_get r j (by simpa using h)
def framS (fw fk : Nat) (t : Tree) : Tree := .mk t.kind (t.words ++ zs (fw - t.words.length)) ((if t.kind = 9 then framR (frW t.kids) (frK t.kids) t.kids else framK t.kids) ++ List.replicate (fk - t.kids.length) Tree.nil)
theorem framR_eq (fw fk : Nat) : ∀ l : List Tree, framR fw fk l = l.map (framS fw fk)
  | [] => by rw [framR]; rfl
  | .mk k w ks :: r => by rw [framR, framR_eq fw fk r]; rfl
theorem weight_nonneg (t : Tree) : 0 ≤ weight t := (weight_range t).1
theorem weightK_app : ∀ a b : List Tree, weightK (a ++ b) = weightK a + weightK b
  | [], b => by simp [weightK]
  | t :: r, b => by rw [List.cons_append, weightK, weightK, weightK_app r b]; omega
theorem weightK_nil : ∀ n : Nat, weightK (List.replicate n Tree.nil) = 0
  | 0 => by simp [weightK]
  | n + 1 => by rw [List.replicate_succ, weightK, weightK_nil n]; simp [Tree.nil, weight]
theorem mean_xz {l : List (List Int)} (d : Nat) (left : Int) : mean l d xz left = (Tree.nil, left, 0) := by
  by_cases h : d = 0
  · subst h; rw [mean_zero]; rfl
  · rw [mean_eq (by omega)]; rfl
theorem massK_mem : ∀ {l : List Tree} {t : Tree}, t ∈ l → mass t ≤ massK l
  | k :: r, t, h => by
    rw [massK]
    rcases List.mem_cons.1 h with rfl | h
    · omega
    · have := massK_mem h; omega
theorem getD_mem {l : List Tree} {j : Nat} (h : j < l.length) : l.getD j Tree.nil ∈ l := by
  rw [List.getD_eq_getElem?_getD, List.getElem?_eq_getElem h]
  exact List.getElem_mem h
theorem mean_lay {A : List Int} (hA : A.length ≤ 100000000) : ∀ (N : Nat) (t : Tree), mass t ≤ N → ∀ (d : Nat) (a to left : Int), (0 ≤ a ∧ a < A.length) → rightT t d = true → t.kind ≠ 10 → rng t → A.getD a.toNat 0 = headP a to t → Has A to (blkP t to) →
    weight (framT t) ≤ left → mean [A] d (xOf a to t) left = (framT t, left - weight (framT t), 0) := by
  intro N
  induction N with
  | zero => intro t h; have := mass_pos t; omega
  | succ N ih =>
  intro t hN d a to left ha hr h10 hg hh hb hl
  obtain ⟨k, w, ks⟩ := t
  have h10 : k ≠ 10 := h10
  have rt := riT hr
  have hk := rt.kind
  rw [mass] at hN
  by_cases h0 : k = 0
  · obtain ⟨rfl, rfl⟩ := rt.nil h0
    subst h0
    have e : xOf a to (.mk 0 [] []) = xz := rfl
    have e2 : framT (.mk 0 [] []) = Tree.nil := by rw [framT, if_neg (by decide), framK]; rfl
    rw [e, e2, mean_xz]
    simp [Tree.nil, weight]
  have hd : 1 ≤ d := by
    rcases Nat.eq_zero_or_pos d with h | h
    · subst h
      rw [rightT, if_neg h0, if_neg h10, if_pos (by simp)] at hr
      cases hr
    · exact h
  have hdI : ((d - 1 : Nat) : Int) = (d : Int) - 1 := by omega
  -- a kid to which a word points
  have kid : ∀ (d' : Nat) (t' : Tree) (a' b' : Int) (left' : Int), mass t' ≤ massK ks → rightT t' d' = true → t'.kind ≠ 10 → rng t' → (0 ≤ a' ∧ a' < A.length) → A.getD a'.toNat 0 = headP a' b' t' → Has A b' (blkP t' b') → weight (framT t') ≤ left' →
      refAt [A] 0 a' = (xOf a' b' t', 0) ∧ mean [A] d' (xOf a' b' t') left' = (framT t', left' - weight (framT t'), 0) := by
    intro d' t' a' b' left' hm hr' h10' hg' ha' hh' hb' hl'
    exact ⟨refAt_lay hA ha' hr' h10' hh' hb', ih t' (by omega) d' a' b' left' ha' hr' h10' hg' hh' hb' hl'⟩
  have hgk : ∀ t' ∈ ks, rng t' := by
    have : ∀ l : List Tree, rngK l → ∀ t' ∈ l, rng t' := by
      intro l
      induction l with
      | nil => intro _ t' h; cases h
      | cons x l ih =>
        intro h t' ht
        rw [rngK] at h
        rcases List.mem_cons.1 ht with rfl | ht
        · exact h.1
        · exact ih h.2 t' ht
    rw [rng] at hg
    exact this ks hg.2.2
  have hlen := hb.len
  rw [mean_eq hd]
  unfold stepM
  by_cases h1 : k = 1
  · have ex : xOf a to (.mk k w ks) = ⟨1, 0, if w.length + ks.length = 0 then a else to, w.length, ks.length, 0, 0⟩ := by unfold xOf; dsimp only; rw [if_neg h0, if_pos h1]
    have ef : framT (.mk k w ks) = .mk 1 w (framK ks) := by rw [framT, if_neg (by omega), h1]
    rw [blkP, if_neg h0, if_pos h1] at hb
    have ew : weight (.mk 1 w (framK ks)) = 1 + (w.length : Int) + ks.length + weightK (framK ks) := by rw [weight, if_neg (by decide), if_pos rfl, framK_len]; omega
    rw [ef, ew] at hl
    have hwk : 0 ≤ weightK (framK ks) := by rw [← sumT_weight]; exact sumT_pos fun t _ => weight_nonneg t
    have eown : ownX ⟨1, 0, if w.length + ks.length = 0 then a else to, w.length, ks.length, 0, 0⟩ = 1 + (w.length : Int) + ks.length := rfl
    rw [ex, ef, ew, if_neg (show ¬(1 : Int) = 0 by decide), if_neg (by rw [eown]; rintro (h | h | h); omega; exact absurd h.1 (show ¬(1 : Int) = 9 by decide); omega), eown]
    have ekx : (kidsX ⟨1, 0, if w.length + ks.length = 0 then a else to, w.length, ks.length, 0, 0⟩).toNat = (framK ks).length := by rw [framK_len]; rfl
    have ewx : wordsX [A] ⟨1, 0, if w.length + ks.length = 0 then a else to, w.length, ks.length, 0, 0⟩ = w := by
      unfold wordsX
      rw [if_neg (show ¬(1 : Int) = 10 by decide), if_pos rfl]
      dsimp only
      rw [segAt_one]
      by_cases hz : w.length + ks.length = 0
      · have : w = [] := List.length_eq_zero_iff.1 (by omega)
        subst this
        rfl
      · rw [if_neg hz]
        exact hb.left.take
    have hloop : loopM (kidM [A] (mean [A] (d - 1)) (mean [A] (d - 2)) ⟨1, 0, if w.length + ks.length = 0 then a else to, w.length, ks.length, 0, 0⟩) (framK ks).length 0 (left - (1 + (w.length : Int) + ks.length)) [] =
        ([] ++ framK ks, left - (1 + (w.length : Int) + ks.length) - sumT weight (framK ks), 0) := by
      refine loopM_list (framK ks) 0 _ [] (fun j hj left' hle => ?_) (fun t _ => weight_nonneg t) (by rw [sumT_weight]; omega)
      rw [framK_len] at hj
      rw [framK_get ks j hj] at hle ⊢
      have hm := getD_mem hj
      have hk2 := hb.right
      obtain ⟨b, q1, q2⟩ := kids_has ks _ _ hk2.left (by have := hk2.right; rw [kidsP_len] at this; rwa [show to + (w.length : Int) + (ks.length : Int) = to + w.length + ks.length by omega]) j hj
      have hpos : 0 ≤ to + (w.length : Int) + j ∧ to + (w.length : Int) + j < A.length := by
        have := hk2.left.len
        rw [kidsP_len] at this
        omega
      obtain ⟨r1, r2⟩ := kid (d - 1) (ks.getD j Tree.nil) _ b left' (massK_mem hm) (by rw [hdI]; exact (rt.kids _ hm).1) ((rt.kids _ hm).2.2.1 (.inl h1)) (hgk _ hm) hpos q1 q2 hle
      have hkx : kidX [A] ⟨1, 0, if w.length + ks.length = 0 then a else to, w.length, ks.length, 0, 0⟩ (0 + (j : Int)) = refAt [A] 0 (to + w.length + j) := by
        unfold kidX
        rw [if_neg (by show ¬((0 : Int) + j < 0 ∨ (ks.length : Int) ≤ 0 + j); omega), if_pos rfl]
        dsimp only
        rw [if_neg (show ¬(w.length + ks.length = 0) by omega), show to + (w.length : Int) + (0 + (j : Int)) = to + w.length + j by omega]
      unfold kidM
      rw [hkx, r1]
      dsimp only
      rw [if_pos rfl, if_neg (by decide), if_pos (.inl rfl), r2]
    rw [ekx, hloop, ewx, sumT_weight]
    simp only [List.nil_append, Prod.mk.injEq, true_and, and_true]
    omega
  by_cases h8 : k = 8
  · have ex : xOf a to (.mk k w ks) = ⟨8, 0, to, 0, 0, ks.length, 0⟩ := by unfold xOf; dsimp only; rw [if_neg h0, if_neg h1, if_neg (by omega), h8]
    have hw0 : w = [] := rt.list h1 h10
    subst hw0
    have ef : framT (.mk k [] ks) = .mk 8 [] (framK ks) := by rw [framT, if_neg (by omega), h8]
    rw [blkP, if_neg h0, if_neg h1, if_pos h8] at hb
    have ew : weight (.mk 8 [] (framK ks)) = 1 + (ks.length : Int) + weightK (framK ks) := by rw [weight, if_neg (by decide), if_neg (by decide), if_pos rfl, framK_len]
    rw [ef, ew] at hl
    have hwk : 0 ≤ weightK (framK ks) := by rw [← sumT_weight]; exact sumT_pos fun t _ => weight_nonneg t
    have eown : ownX ⟨8, 0, to, 0, 0, ks.length, 0⟩ = 1 + (ks.length : Int) := rfl
    rw [ex, ef, ew, if_neg (show ¬(8 : Int) = 0 by decide), if_neg (by rw [eown]; rintro (h | h | h); omega; exact absurd h.1 (show ¬(8 : Int) = 9 by decide); omega), eown]
    have ekx : (kidsX ⟨8, 0, to, 0, 0, ks.length, 0⟩).toNat = (framK ks).length := by rw [framK_len]; rfl
    have hloop : loopM (kidM [A] (mean [A] (d - 1)) (mean [A] (d - 2)) ⟨8, 0, to, 0, 0, ks.length, 0⟩) (framK ks).length 0 (left - (1 + (ks.length : Int))) [] =
        ([] ++ framK ks, left - (1 + (ks.length : Int)) - sumT weight (framK ks), 0) := by
      refine loopM_list (framK ks) 0 _ [] (fun j hj left' hle => ?_) (fun t _ => weight_nonneg t) (by rw [sumT_weight]; omega)
      rw [framK_len] at hj
      rw [framK_get ks j hj] at hle ⊢
      have hm := getD_mem hj
      obtain ⟨b, q1, q2⟩ := kids_has ks _ _ hb.left (by have := hb.right; rwa [kidsP_len] at this) j hj
      have hpos : 0 ≤ to + (j : Int) ∧ to + (j : Int) < A.length := by
        have := hb.left.len
        rw [kidsP_len] at this
        omega
      obtain ⟨r1, r2⟩ := kid (d - 1) (ks.getD j Tree.nil) _ b left' (massK_mem hm) (by rw [hdI]; exact (rt.kids _ hm).1) ((rt.kids _ hm).2.2.1 (.inr h8)) (hgk _ hm) hpos q1 q2 hle
      have hkx : kidX [A] ⟨8, 0, to, 0, 0, ks.length, 0⟩ (0 + (j : Int)) = refAt [A] 0 (to + j) := by
        unfold kidX
        rw [if_neg (by show ¬((0 : Int) + j < 0 ∨ (ks.length : Int) ≤ 0 + j); omega), if_neg (show ¬(8 : Int) = 1 by decide), if_pos rfl]
        dsimp only
        rw [show to + (0 + (j : Int)) = to + j by omega]
      unfold kidM
      rw [hkx, r1]
      dsimp only
      rw [if_pos rfl, if_neg (by decide), if_pos (.inr rfl), r2]
    rw [ekx, hloop, sumT_weight]
    simp only [List.nil_append, Prod.mk.injEq, and_true]
    exact ⟨rfl, by omega⟩
  have hw0 : w = [] := rt.list h1 h10
  subst hw0
  by_cases h9 : k = 9
  · have ex : xOf a to (.mk k [] ks) = ⟨9, 0, to + 1, frW ks, frK ks, ks.length, 0⟩ := by unfold xOf; dsimp only; rw [if_neg h0, if_neg h1, if_pos h9]
    have ef : framT (.mk k [] ks) = .mk 9 [] (ks.map (framS (frW ks) (frK ks))) := by rw [framT, if_pos h9, framR_eq, h9]
    have hkk : ∀ t' ∈ ks, t'.kind = 1 := fun t' ht => (rt.kids t' ht).2.2.2 h9
    rw [blkP, if_neg h0, if_neg h1, if_neg h8, if_pos h9] at hb
    have hb1 : Has A (to + 1) ((rowsP (frW ks) (frK ks) ks (to + 1) (to + 1 + (ks.length * (frW ks + frK ks) : Nat))).1 ++ (rowsP (frW ks) (frK ks) ks (to + 1) (to + 1 + (ks.length * (frW ks + frK ks) : Nat))).2) := Has.right (b := [tagP ks.length (frW ks) (frK ks)]) hb
    have hb2 := hb1.right
    rw [rowsP_len ks _ _ fun t ht => frW_le ht] at hb2
    -- what a struct costs
    have cost : ∀ t' ∈ ks, weight (framS (frW ks) (frK ks) t') = 1 + (frW ks : Int) + frK ks + weightK (framK t'.kids) := by
      intro t' ht
      have := frW_le ht
      unfold framS
      rw [hkk t' ht, weight, if_neg (by decide), if_pos rfl, if_neg (by decide), weightK_app, weightK_nil]
      simp only [List.length_append, zs_len, List.length_replicate, framK_len]
      omega
    let c : Tree → Int := fun t' => weight t' - (1 + (frW ks : Int) + frK ks)
    have hc0 : ∀ t' ∈ ks.map (framS (frW ks) (frK ks)), 0 ≤ c t' := by
      intro t' ht
      obtain ⟨s, hs, rfl⟩ := List.mem_map.1 ht
      show 0 ≤ weight _ - _
      rw [cost s hs]
      have : 0 ≤ weightK (framK s.kids) := by rw [← sumT_weight]; exact sumT_pos fun t _ => weight_nonneg t
      omega
    have hsum : ∀ l : List Tree, sumT c l = weightK l - l.length * (1 + (frW ks : Int) + frK ks) := by
      intro l
      induction l with
      | nil => rw [sumT, weightK]; simp
      | cons t l ih =>
        rw [sumT, weightK, ih, List.length_cons]
        show weight t - _ + _ = _
        rw [Int.natCast_add, Int.add_mul]
        omega
    have ew : weight (.mk 9 [] (ks.map (framS (frW ks) (frK ks)))) = 1 + weightK (ks.map (framS (frW ks) (frK ks))) := by rw [weight, if_neg (by decide), if_neg (by decide), if_neg (by decide)]; omega
    rw [ef, ew] at hl
    have hs := hsum (ks.map (framS (frW ks) (frK ks)))
    have hs0 := sumT_pos hc0
    rw [List.length_map] at hs
    have eown : ownX ⟨9, 0, to + 1, frW ks, frK ks, ks.length, 0⟩ = 1 + (ks.length : Int) * (1 + (frW ks : Int) + frK ks) := rfl
    have hd2 : 0 < ks.length → 2 ≤ d := by
      intro hp
      have hm := getD_mem hp
      have := (rt.kids _ hm).1
      have hk1 := hkk _ hm
      clear hm
      generalize ks.getD 0 Tree.nil = s at *
      obtain ⟨k', w', l'⟩ := s
      have hk1 : k' = 1 := hk1
      rw [rightT, if_neg (by omega), if_neg (by omega)] at this
      split at this
      · cases this
      · omega
    rw [ex, ef, ew, if_neg (show ¬(9 : Int) = 0 by decide), if_neg (by rw [eown]; rintro (h | h | h); omega; (have := h.2.1; have := hd2 (by dsimp only at this; omega); omega); omega), eown]
    have ekx : (kidsX ⟨9, 0, to + 1, frW ks, frK ks, ks.length, 0⟩).toNat = (ks.map (framS (frW ks) (frK ks))).length := by rw [List.length_map]; rfl
    have hloop : loopM (kidM [A] (mean [A] (d - 1)) (mean [A] (d - 2)) ⟨9, 0, to + 1, frW ks, frK ks, ks.length, 0⟩) (ks.map (framS (frW ks) (frK ks))).length 0 (left - (1 + (ks.length : Int) * (1 + (frW ks : Int) + frK ks))) [] =
        ([] ++ ks.map (framS (frW ks) (frK ks)), left - (1 + (ks.length : Int) * (1 + (frW ks : Int) + frK ks)) - sumT c (ks.map (framS (frW ks) (frK ks))), 0) := by
      refine loopM_list _ 0 _ [] (fun j hj left' hle => ?_) hc0 (by omega)
      rw [List.length_map] at hj
      have eg : (ks.map (framS (frW ks) (frK ks))).getD j Tree.nil = framS (frW ks) (frK ks) (ks.getD j Tree.nil) := by
        rw [List.getD_eq_getElem?_getD, List.getElem?_map, List.getElem?_eq_getElem hj, List.getD_eq_getElem?_getD, List.getElem?_eq_getElem hj]; rfl
      rw [eg] at hle ⊢
      have hm := getD_mem hj
      have hfit := frW_le hm
      have hc := cost _ hm
      obtain ⟨b, q1, q2⟩ := rows_has ks _ _ (fun t ht => frW_le ht) hb1.left hb2 j hj
      generalize ht' : ks.getD j Tree.nil = s at *
      have hs1 := hkk s hm
      have hsr := (rt.kids s hm).1
      have hsg := hgk s hm
      have hsm := massK_mem hm
      obtain ⟨sk, sw, sl⟩ := s
      have hs1 : sk = 1 := hs1
      subst hs1
      dsimp only [Tree.words_mk, Tree.kids_mk] at q1 q2 hfit hc
      have rs := riT hsr
      rw [mass] at hsm
      have hrow := q1.len
      simp only [List.length_append, zs_len, kidsP_len] at hrow
      have hcle : weightK (framK sl) ≤ left' := by
        have : c (framS (frW ks) (frK ks) (.mk 1 sw sl)) = weightK (framK sl) := by
          show weight _ - _ = _
          rw [hc]; omega
        rw [this] at hle
        exact hle
      have ec : c (framS (frW ks) (frK ks) (.mk 1 sw sl)) = weightK (framK sl) := by
        show weight _ - _ = _
        rw [hc]; omega
      have hkx : kidX [A] ⟨9, 0, to + 1, frW ks, frK ks, ks.length, 0⟩ (0 + (j : Int)) = (⟨1, 0, to + 1 + (j * (frW ks + frK ks) : Nat), frW ks, frK ks, 0, 0⟩, 0) := by
        unfold kidX
        rw [if_neg (by show ¬((0 : Int) + j < 0 ∨ (ks.length : Int) ≤ 0 + j); omega), if_neg (show ¬(9 : Int) = 1 by decide), if_neg (show ¬(9 : Int) = 8 by decide), if_pos rfl]
        dsimp only
        rw [Int.zero_add, Int.natCast_mul, Int.natCast_add]
      unfold kidM
      rw [hkx]
      dsimp only
      rw [if_pos rfl, if_pos rfl, ec]
      unfold kidsM
      have q3 := q1.right
      have q4 := q3.right
      rw [zs_len] at q4
      rw [show to + 1 + ((j * (frW ks + frK ks) : Nat) : Int) + (sw.length : Int) + ((frW ks - sw.length : Nat) : Int) = to + 1 + ((j * (frW ks + frK ks) : Nat) : Int) + frW ks by omega] at q4
      have ewx : wordsX [A] ⟨1, 0, to + 1 + (j * (frW ks + frK ks) : Nat), frW ks, frK ks, 0, 0⟩ = sw ++ zs (frW ks - sw.length) := by
        unfold wordsX
        rw [if_neg (show ¬(1 : Int) = 10 by decide), if_pos rfl]
        dsimp only
        rw [segAt_one]
        have : Has A (to + 1 + (j * (frW ks + frK ks) : Nat)) (sw ++ zs (frW ks - sw.length)) := by
          rw [← List.append_assoc] at q1
          exact q1.left
        have := this.take
        rw [List.length_append, zs_len, show sw.length + (frW ks - sw.length) = frW ks by omega] at this
        rw [Int.toNat_natCast]
        exact this
      have hsumk : sumT weight (framK sl ++ List.replicate (frK ks - sl.length) Tree.nil) = weightK (framK sl) := by rw [sumT_weight, weightK_app, weightK_nil]; omega
      have hlk : (framK sl ++ List.replicate (frK ks - sl.length) Tree.nil).length = frK ks := by rw [List.length_append, framK_len, List.length_replicate]; omega
      have hin : loopM (fun j' left => if (kidX [A] ⟨1, 0, to + 1 + (j * (frW ks + frK ks) : Nat), frW ks, frK ks, 0, 0⟩ j').2 = 0 then mean [A] (d - 2) (kidX [A] ⟨1, 0, to + 1 + (j * (frW ks + frK ks) : Nat), frW ks, frK ks, 0, 0⟩ j').1 left else (Tree.nil, left, (kidX [A] ⟨1, 0, to + 1 + (j * (frW ks + frK ks) : Nat), frW ks, frK ks, 0, 0⟩ j').2)) (framK sl ++ List.replicate (frK ks - sl.length) Tree.nil).length 0 left' [] =
          ([] ++ (framK sl ++ List.replicate (frK ks - sl.length) Tree.nil), left' - sumT weight (framK sl ++ List.replicate (frK ks - sl.length) Tree.nil), 0) := by
        refine loopM_list _ 0 left' [] (fun i hi left2 hle2 => ?_) (fun t _ => weight_nonneg t) (by rw [hsumk]; exact hcle)
        rw [hlk] at hi
        have hkx2 : kidX [A] ⟨1, 0, to + 1 + (j * (frW ks + frK ks) : Nat), frW ks, frK ks, 0, 0⟩ (0 + (i : Int)) = refAt [A] 0 (to + 1 + (j * (frW ks + frK ks) : Nat) + frW ks + i) := by
          unfold kidX
          rw [if_neg (by show ¬((0 : Int) + i < 0 ∨ (frK ks : Int) ≤ 0 + i); omega), if_pos rfl]
          dsimp only
          rw [Int.zero_add]
        rw [hkx2]
        by_cases hi2 : i < sl.length
        · have egk : (framK sl ++ List.replicate (frK ks - sl.length) Tree.nil).getD i Tree.nil = framT (sl.getD i Tree.nil) := by
            rw [List.getD_eq_getElem?_getD, List.getElem?_append_left (by rw [framK_len]; exact hi2), ← List.getD_eq_getElem?_getD, framK_get sl i hi2]
          rw [egk] at hle2 ⊢
          have hm2 := getD_mem hi2
          obtain ⟨b2, p1, p2⟩ := kids_has sl _ _ q4.left q2 i hi2
          have hd2' := hd2 (by omega)
          have hsg2 : rng (sl.getD i Tree.nil) := by
            have : ∀ l : List Tree, rngK l → ∀ t' ∈ l, rng t' := by
              intro l
              induction l with
              | nil => intro _ t' h; cases h
              | cons x l ih =>
                intro h t' ht
                rw [rngK] at h
                rcases List.mem_cons.1 ht with rfl | ht
                · exact h.1
                · exact ih h.2 t' ht
            rw [rng] at hsg
            exact this sl hsg.2.2 _ hm2
          obtain ⟨r1, r2⟩ := kid (d - 2) (sl.getD i Tree.nil) _ b2 left2 (by have := massK_mem hm2; omega) (by rw [show ((d - 2 : Nat) : Int) = (d : Int) - 1 - 1 by omega]; exact (rs.kids _ hm2).1) ((rs.kids _ hm2).2.2.1 (.inl rfl)) hsg2 (by omega) p1 p2 hle2
          rw [r1]
          dsimp only
          rw [if_pos rfl, r2]
        · have egk : (framK sl ++ List.replicate (frK ks - sl.length) Tree.nil).getD i Tree.nil = Tree.nil := by
            rw [List.getD_eq_getElem?_getD, List.getElem?_append_right (by rw [framK_len]; omega), List.getElem?_replicate]
            split <;> rfl
          rw [egk]
          have q5 := q4.right
          rw [kidsP_len] at q5
          have hz : A.getD (to + 1 + (j * (frW ks + frK ks) : Nat) + frW ks + i).toNat 0 = 0 := by
            have := q5.get (i := i - sl.length) (by rw [zs_len]; omega)
            rw [show to + 1 + ((j * (frW ks + frK ks) : Nat) : Int) + frW ks + (sl.length : Int) + ((i - sl.length : Nat) : Int) = to + 1 + (j * (frW ks + frK ks) : Nat) + frW ks + i by omega] at this
            rw [this, List.getD_eq_getElem?_getD, zs, List.getElem?_replicate]
            split <;> rfl
          have hr0 : refAt [A] 0 (to + 1 + (j * (frW ks + frK ks) : Nat) + frW ks + i) = (xz, 0) := by
            have hf : follow [A] 0 (to + 1 + (j * (frW ks + frK ks) : Nat) + frW ks + i) = (locZ, 0) := by
              unfold follow
              rw [if_pos (hasN_one.2 ⟨by omega, by omega, by omega⟩), getS_one, hz]
              rfl
            unfold refAt
            rw [hf]
            rfl
          rw [hr0]
          dsimp only
          rw [if_pos rfl, mean_xz]
          simp [Tree.nil, weight]
      rw [hlk, hsumk] at hin
      dsimp only
      rw [ewx, Int.toNat_natCast, hin]
      unfold framS
      rw [if_neg (show ¬(Tree.mk 1 sw sl).kind = 9 from (by show ¬(1 : Int) = 9; decide)), List.nil_append]
      rfl
    rw [ekx, hloop, hs]
    simp only [List.nil_append, Prod.mk.injEq, and_true]
    exact ⟨rfl, by omega⟩
  · -- numbers
    have hk27 : 2 ≤ k ∧ k ≤ 7 := by omega
    obtain ⟨hfit, hat⟩ := rt.data hk27.1 hk27.2
    have ex : xOf a to (.mk k [] ks) = ⟨k, 0, to, 0, 0, ks.length, 0⟩ := by unfold xOf; dsimp only; rw [if_neg h0, if_neg h1, if_neg h9]
    have eat : ∀ l : List Tree, (∀ t ∈ l, t.kind = 10 ∧ t.kids.length = 0 ∧ t.words.length = 1) → framK l = l ∧ weightK l = l.length := by
      intro l
      induction l with
      | nil => intro _; exact ⟨by rw [framK], by rw [weightK]; rfl⟩
      | cons t l ih =>
        intro h
        obtain ⟨i1, i2⟩ := ih fun t ht => h t (List.mem_cons_of_mem _ ht)
        have h1 := h t List.mem_cons_self
        obtain ⟨k', w', l'⟩ := t
        obtain ⟨e1, e2, _⟩ := h1
        dsimp only [Tree.kind_mk, Tree.kids_mk] at e1 e2
        have e2 := List.length_eq_zero_iff.1 e2
        subst e1 e2
        refine ⟨by rw [framK, i1, framT, if_neg (by decide), framK], ?_⟩
        rw [weightK, i2, weight, if_neg (by decide), if_neg (by decide), if_neg (by decide), weightK, List.length_cons]
        omega
    obtain ⟨e1, e2⟩ := eat ks hat
    have ef : framT (.mk k [] ks) = .mk k [] ks := by rw [framT, if_neg h9, e1]
    have ew : weight (.mk k [] ks) = 1 + (ks.length : Int) := by rw [weight, if_neg h0, if_neg h1, if_neg h8, e2]; omega
    rw [ef, ew] at hl
    have eown : ownX ⟨k, 0, to, 0, 0, ks.length, 0⟩ = 1 + (ks.length : Int) := by unfold ownX; rw [if_neg h1, if_neg h9]
    rw [ex, ef, ew, if_neg h0, if_neg (by rw [eown]; rintro (h | h | h); omega; exact absurd h.1 h9; omega), eown]
    have ekx : (kidsX ⟨k, 0, to, 0, 0, ks.length, 0⟩).toNat = ks.length := by unfold kidsX; rw [if_neg h1]; rfl
    have hblk : blkP (.mk k [] ks) to = putW (k - 2) (numsP ks) := by
      rw [blkP, if_neg h0, if_neg h1, if_neg h8, if_neg h9]
      unfold putR
      rw [if_pos hfit]
    rw [hblk] at hb
    have hnW : okW (numsP ks) := by
      intro x hx
      obtain ⟨t', ht', rfl⟩ := List.mem_map.1 hx
      have := hgk t' ht'
      obtain ⟨k', w', l'⟩ := t'
      rw [rng] at this
      exact getD_word this.2.1 0
    have hnl : (numsP ks).length = ks.length := by rw [numsP, List.length_map]
    have hlk := rt.len
    have hloop : loopM (kidM [A] (mean [A] (d - 1)) (mean [A] (d - 2)) ⟨k, 0, to, 0, 0, ks.length, 0⟩) ks.length 0 (left - (1 + (ks.length : Int))) [] =
        ([] ++ ks, left - (1 + (ks.length : Int)) - sumT (fun _ => 0) ks, 0) := by
      refine loopM_list (cost := fun _ => 0) ks 0 _ [] (fun j hj left' hle => ?_) (fun t _ => Int.le_refl _) ?_
      · have hm := getD_mem hj
        have hkx : kidX [A] ⟨k, 0, to, 0, 0, ks.length, 0⟩ (0 + (j : Int)) = (⟨10, 0, 0, 0, 0, 0, getW (A.drop to.toNat) (k - 2) j⟩, 0) := by
          unfold kidX
          rw [if_neg (by unfold kidsX; rw [if_neg h1]; dsimp only; omega), if_neg h1, if_neg h8, if_neg h9]
          dsimp only
          rw [segAt_one, Int.zero_add]
        have hget : getW (A.drop to.toNat) (k - 2) j = (numsP ks).getD j 0 := by
          obtain ⟨s, hs⟩ := hb.drop
          rw [hs]
          by_cases hw : 1 ≤ wd (k - 2)
          · have := getW_putW hw hnW (by rw [hnl]; omega) hfit (j := (j : Int)) (by omega) (by rw [hnl]; omega)
            rw [← Int.toNat_natCast j, ← this, Int.toNat_natCast]
            obtain ⟨r1, r2⟩ := room_at hw (i := (j : Int)) (n := ks.length) (by omega) (by omega) (by omega)
            have hpl := putW_len (k - 2) (numsP ks)
            rw [hnl] at hpl
            unfold getW
            rw [if_neg (by rw [List.length_append]; omega), if_neg (by omega)]
            rw [List.getD_eq_getElem?_getD, List.getElem?_append_left (by omega), ← List.getD_eq_getElem?_getD]
          · have hw0 : wd (k - 2) = 0 := by
              unfold fitsA at hfit
              rw [Bool.and_eq_true] at hfit
              have := of_decide_eq_true hfit.1
              omega
            have hf := fitsA_get hfit (i := j) (by rw [hnl]; exact hj)
            have hf := fits_lt hf
            rw [hw0] at hf
            have h0' := getD_word hnW j
            have : (numsP ks).getD j 0 = 0 := by have h2 : (numsP ks).getD j 0 < 2 ^ (0 : Int).toNat := hf.2; have h3 : (2 : Int) ^ (0 : Int).toNat = 1 := rfl; omega
            rw [this]
            unfold getW
            rw [if_pos (by omega)]
        have htj : ks.getD j Tree.nil = .mk 10 [(numsP ks).getD j 0] [] := by
          have e3 : (numsP ks).getD j 0 = (ks.getD j Tree.nil).words.getD 0 0 := by
            rw [numsP, List.getD_eq_getElem?_getD, List.getElem?_map, List.getElem?_eq_getElem hj, List.getD_eq_getElem?_getD (l := ks), List.getElem?_eq_getElem hj]; rfl
          rw [e3]
          have := hat _ hm
          generalize ks.getD j Tree.nil = s at this ⊢
          obtain ⟨k', w', l'⟩ := s
          obtain ⟨e1, e2, e3⟩ := this
          dsimp only [Tree.kind_mk, Tree.kids_mk, Tree.words_mk] at e1 e2 e3 ⊢
          have e2 := List.length_eq_zero_iff.1 e2
          subst e1 e2
          match w', e3 with
          | [x], _ => rfl
        unfold kidM
        rw [hkx]
        dsimp only
        rw [if_pos rfl, if_neg h9, if_neg (by omega), htj, hget]
        unfold wordsX
        rw [if_pos rfl]
        simp
      · have : sumT (fun _ => 0) ks = 0 := by
          have : ∀ l : List Tree, sumT (fun _ => 0) l = 0 := by intro l; induction l with | nil => rfl | cons t l ih => rw [sumT, ih]; rfl
          exact this ks
        rw [this]; omega
    have hs0 : sumT (fun _ => 0) ks = 0 := by
      have : ∀ l : List Tree, sumT (fun _ => 0) l = 0 := by intro l; induction l with | nil => rfl | cons t l ih => rw [sumT, ih]; rfl
      exact this ks
    have ewx : wordsX [A] ⟨k, 0, to, 0, 0, ks.length, 0⟩ = [] := by unfold wordsX; dsimp only; rw [if_neg (show ¬k = 10 from h10), if_neg h1]
    rw [ekx, hloop, hs0, ewx]
    simp only [List.nil_append, Prod.mk.injEq, true_and, and_true]
    omega
end Go.AM.Ythokdjgpdonhgaa

namespace Go.AM.Ythokdjgpdonhgaa
open Go.AM Go.Proofs
theorem trim_zs (w : List Int) : ∀ n : Nat, trim (w ++ zs n) = trim w := by
  have one : ∀ l : List Int, trim (l ++ [0]) = trim l := by
    intro l
    induction l with
    | nil => rfl
    | cons x r ih =>
      rw [List.cons_append, trim, trim, ih]
  intro n
  induction n with
  | zero => simp [zs]
  | succ n ih => rw [zs_add, ← List.append_assoc, show zs 1 = [0] from rfl, one, ih]
theorem trimK_nils (l : List Tree) : ∀ n : Nat, trimK (l ++ List.replicate n Tree.nil) = trimK l := by
  intro n
  induction n with
  | zero => simp
  | succ n ih => rw [List.replicate_succ', ← List.append_assoc, trimK_zero rfl, ih]
theorem normK_append : ∀ a b : List Tree, normK (a ++ b) = normK a ++ normK b
  | [], b => by rw [normK]; rfl
  | t :: r, b => by rw [List.cons_append, normK, normK, normK_append r b]; rfl
theorem normK_replicate : ∀ n : Nat, normK (List.replicate n Tree.nil) = List.replicate n Tree.nil
  | 0 => by rw [List.replicate_zero, normK]
  | n + 1 => by rw [List.replicate_succ, normK, normK_replicate n, normT_nil]
theorem norm_fram : ∀ (N : Nat) (t : Tree), mass t ≤ N → ∀ d, rightT t d = true → normT (framT t) = normT t := by
  intro N
  induction N with
  | zero => intro t h; have := mass_pos t; omega
  | succ N ih =>
  intro t hN d hr
  obtain ⟨k, w, ks⟩ := t
  rw [mass] at hN
  have rt := riT hr
  have kidsN : ∀ (l : List Tree), massK l ≤ N → (∀ t ∈ l, ∃ d, rightT t d = true) → normK (framK l) = normK l := by
    intro l
    induction l with
    | nil => intro _ _; rw [framK]
    | cons t l ih2 =>
      intro hm h
      rw [massK] at hm
      obtain ⟨d', h'⟩ := h t List.mem_cons_self
      rw [framK, normK, normK, ih t (by omega) d' h', ih2 (by omega) fun t ht => h t (List.mem_cons_of_mem _ ht)]
  rw [framT, normT, normT]
  by_cases h0 : k = 0
  · rw [if_pos h0, if_pos h0]
  rw [if_neg h0, if_neg h0]
  by_cases h1 : k = 1
  · rw [if_pos h1, if_pos h1, if_neg (by omega), kidsN ks (by omega) fun t ht => ⟨_, (rt.kids t ht).1⟩]
  rw [if_neg h1, if_neg h1]
  by_cases h9 : k = 9
  · rw [if_pos h9, framR_eq]
    have : ∀ (l : List Tree) (fw fk : Nat), massK l ≤ N → (∀ t ∈ l, t.kind = 1 ∧ ∃ d, rightT t d = true) → normK (l.map (framS fw fk)) = normK l := by
      intro l fw fk
      induction l with
      | nil => intro _ _; rfl
      | cons t l ih2 =>
        intro hm h
        rw [massK] at hm
        obtain ⟨k1, d', h'⟩ := h t List.mem_cons_self
        rw [List.map_cons, normK, normK, ih2 (by omega) fun t ht => h t (List.mem_cons_of_mem _ ht)]
        congr 1
        obtain ⟨k', w', l'⟩ := t
        have k1 : k' = 1 := k1
        subst k1
        have r' := riT h'
        rw [mass] at hm
        unfold framS
        rw [if_neg (show ¬(Tree.mk 1 w' l').kind = 9 from (by show ¬(1 : Int) = 9; decide))]
        show normT (.mk 1 (w' ++ zs (fw - w'.length)) (framK l' ++ List.replicate (fk - l'.length) Tree.nil)) = normT (.mk 1 w' l')
        rw [normT, normT, if_neg (by decide), if_pos rfl, if_neg (by decide), if_pos rfl, trim_zs, normK_append, normK_replicate, trimK_nils, kidsN l' (by omega) fun t ht => ⟨_, (r'.kids t ht).1⟩]
    rw [this ks _ _ (by omega) fun t ht => ⟨(rt.kids t ht).2.2.2 h9, _, (rt.kids t ht).1⟩]
  · rw [if_neg h9, kidsN ks (by omega) fun t ht => ⟨_, (rt.kids t ht).1⟩]
theorem lay_self {n : Tree} {d : Int} (hr : rightT n d = true) (h10 : n.kind ≠ 10) :
    (layP [0] 0 n).length = sizeN n + 1 ∧ (layP [0] 0 n).getD 0 0 = headP 0 1 n ∧ Has (layP [0] 0 n) 1 (blkP n 1) := by
  have hb := blkP_len n d 1 hr h10
  unfold layP
  by_cases h0 : n.kind = 0
  · have rt := riT' hr
    have e := rt.nil h0
    have hs : sizeN n = 0 := by rw [size_eq, if_neg (by omega), if_neg (by omega), if_neg (by omega), if_neg (by omega), e.2]; rfl
    have hbl : blkP n 1 = [] := List.length_eq_zero_iff.1 (by omega)
    rw [if_pos h0, hs, hbl]
    refine ⟨rfl, ?_, ⟨[0], [], rfl, rfl⟩⟩
    rw [head_eq, if_pos h0]
    rfl
  · rw [if_neg h0]
    refine ⟨?_, rfl, ⟨[headP 0 1 n], [], by simp, rfl⟩⟩
    rw [List.length_append, List.length_set]
    show 1 + (blkP n 1).length = _
    omega
theorem lay_mean {n : Tree} (hr : rightT n 64 = true) (h10 : n.kind ≠ 10) (hg : rng n) (hs : sizeN n < 131072) {left : Int} (hl : weight (framT n) ≤ left) :
    refAt [layP [0] 0 n] 0 0 = (xOf 0 1 n, 0) ∧ mean [layP [0] 0 n] 64 (xOf 0 1 n) left = (framT n, left - weight (framT n), 0) := by
  obtain ⟨h1, h2, h3⟩ := lay_self hr h10
  have ha : (0 : Int) ≤ 0 ∧ (0 : Int) < (layP [0] 0 n).length := ⟨Int.le_refl _, by omega⟩
  exact ⟨refAt_lay (by omega) ha hr h10 h2 h3, mean_lay (by omega) (mass n) n (Nat.le_refl _) 64 0 1 left ha hr h10 hg h2 h3 hl⟩
theorem enc_yes {t : Tree} {m : Int} (h : (encP t m).2 = true) : rightT t 64 = true ∧ t.kind ≠ 10 ∧ (sizeN (normT t) : Int) < m ∧ sizeN (normT t) < 131072 ∧ encP t m = (layP [0] 0 (normT t), true) := by
  unfold encP at h ⊢
  split at h
  · rename_i h1
    rw [if_pos h1]
    split at h
    · rename_i h2
      rw [if_pos h2]
      exact ⟨h1.1, h1.2, h2.1, h2.2, rfl⟩
    · cases h
  · cases h
theorem enc_no {t : Tree} {m : Int} (h : (encP t m).2 = false) : encP t m = ([], false) := by
  unfold encP at h ⊢
  split
  · rename_i h1
    rw [if_pos h1] at h
    split
    · rename_i h2
      rw [if_pos h2] at h
      cases h
    · rfl
  · rfl
theorem enc_len (t : Tree) (m : Int) : (encP t m).1.length ≤ 131072 := by
  cases h : (encP t m).2 with
  | false => rw [enc_no h]; simp
  | true =>
    obtain ⟨h1, h2, _, h4, h5⟩ := enc_yes h
    rw [h5]
    have := (lay_self (rightT_norm _ _ h1) (by rw [normT_kind]; exact h2)).1
    dsimp only
    omega
end Go.AM.Ythokdjgpdonhgaa

namespace Go.AM.Ythokdjgpdonhgaa
open Go.AM Go.Proofs
theorem c35 : Contract Try.prog cfg 35 spec35 := by
  refine make35 c71 c72 c73 c74 c1075 ?_
  intro t most _ hp
  obtain ⟨hm, hg⟩ := hp
  dsimp only at hm hg
  have no : ¬(rightT t 64 = true ∧ t.kind ≠ 10 ∧ (sizeN (normT t) : Int) < most ∧ sizeN (normT t) < 131072) → EndsQ cfg Try.f35.ntmps Try.f35.results.toList (res35 (t, most, ())) [] .ret (⟨[(4, .c (.nils)), (5, .c (.bool false))], [], []⟩ : LSt U) := by
    intro h
    refine ends_eq (r' := .tup [(false, [.slice (U := U) .u64 [] .unk]), (false, [.bool false])]) ?_ (by (repeat' (first | exact trivial | exact rfl | apply And.intro)))
    simp only [res35]
    unfold encP
    split
    · rw [if_neg (by rename_i h2; exact fun h3 => h ⟨h2.1, h2.2, h3⟩)]
    · rfl
  have hn := normT_mass t
  refine vc35 _ _ _ ?_
  rintro y1 rfl y2 rfl
  rw [normT_idem]
  (simp only [vcT, vcS])
  have q1 : mass y1 ≤ 1000000000000 := by omega
  have q2 : mass (normT y1) ≤ 1000000 := by omega
  refine ⟨⟨hm, hg⟩, fun h => no (fun h2 => ?_), fun h => ⟨q1, ⟨q2, 64, rightT_norm _ _ h.1⟩, fun h2 => no (fun h3 => ?_), fun h2 => ⟨⟨rfl, by decide, by decide⟩, ⟨⟨Int.le_refl _, by dsimp only; simp [zs], by dsimp only; simp [zs]; omega⟩, ⟨q2, rng_norm _ hg⟩, ?_, 64, rightT_norm _ _ h.1⟩, ?_⟩⟩⟩
  · rcases h with h | h
    · rw [h2.1] at h; cases h
    · exact h2.2.1 h
  · omega
  · dsimp only
    rw [normT_kind]
    exact h.2
  · refine ends_eq (r' := .tup [(false, [.slice (U := U) .u64 (layP [0] 0 (normT y1)) .unk]), (false, [.bool true])]) ?_ (by (repeat' (first | exact trivial | exact rfl | apply And.intro)))
    simp only [res35]
    unfold encP
    rw [if_pos ⟨h.1, h.2⟩, if_pos (by omega)]
theorem c34 : Contract Try.prog cfg 34 spec34 := by
  refine make34 c35 c37 ?_
  rintro _ hp
  have e : encP (Tree.mk 1 [5] [Tree.mk 8 [] [Tree.mk 0 [] []]]) 9 = ([281479271677952, 5, 60129542145, 0], true) := by rfl
  refine vc34 _ ?_
  simp only [e]
  (simp only [vcT, vcS])
  refine ⟨⟨by decide, ?_⟩, by show (_ : Nat) ≤ _; decide, ?_⟩
  · refine ⟨by decide, ?_, ⟨by decide, ?_, ⟨by decide, ?_, trivial⟩, trivial⟩, trivial⟩
    all_goals (intro x hx; simp at hx; try omega)
  · (repeat' (first | exact trivial | exact rfl | apply And.intro))
end Go.AM.Ythokdjgpdonhgaa

namespace Go.AM.Ythokdjgpdonhgaa
open Go.AM Go.Proofs
def args52 : ArgL (Ref × Unit) := (.cons (aEl .ref) .nil)
def pre52 (a : Ref × Unit) : Prop := okR a.1 ∧ valE a.1
def mu52 (a : Ref × Unit) : Nat := mass (valT a.1)
noncomputable def res52 (a : Ref × Unit) : V U := .tup [(true, [.int .i64 (Tree.kind (valT a.1)), .slice (U := U) .u64 (Tree.words (valT a.1)) .unk, .slice (U := U) .tree (Tree.kids (valT a.1)) .unk]), (false, [.int .i64 0])]
noncomputable def spec52 : Fs U := fs args52 (fun a => [pre52 a]) res52
def args48 : ArgL (Option Arena × Limits × Unit) := (.cons (aPo .arena) (.cons (aEl .limits) .nil))
def pre48 (a : Option Arena × Limits × Unit) : Prop := okA a.1
noncomputable def res48 (a : Option Arena × Limits × Unit) : V U := .tup [(true, [.int .i64 (Tree.kind (normT (unfV (segO a.1) a.2.1).1)), .slice (U := U) .u64 (Tree.words (normT (unfV (segO a.1) a.2.1).1)) .unk, .slice (U := U) .tree (Tree.kids (normT (unfV (segO a.1) a.2.1).1)) .unk]), (false, [.int .i64 ((unfV (segO a.1) a.2.1).2.2)])]
noncomputable def spec48 : Fs U := fs args48 (fun a => [pre48 a]) res48
noncomputable def know52 (N : Nat) : List (FuncId × Fs U) := (52, fs args52 (fun a => [pre52 a, mu52 a < N]) res52) :: [(22, spec22), (59, spec59), (25, spec25), (23, spec23), (24, spec24)]
def lv52 : Lives U := fun i => match i with
  | 0 => ([(1, []), (2, [])], [((.loc 1), []), ((.loc 2), [])])
  | 1 => ([(1, []), (2, []), (4, [])], [((.loc 1), []), ((.loc 2), []), ((.loc 4), [])])
  | 2 => ([(1, []), (2, []), (4, []), (14, []), (15, [])], [((.loc 1), []), ((.loc 2), []), ((.loc 4), [.any, .own .u64])])
  | 3 => ([(1, []), (2, []), (4, []), (14, []), (15, []), (16, [])], [((.loc 1), []), ((.loc 2), []), ((.loc 4), [])])
  | 4 => ([(1, []), (2, []), (4, []), (5, []), (14, []), (15, [])], [((.loc 1), []), ((.loc 2), []), ((.loc 4), [])])
  | 5 => ([(1, []), (2, []), (4, []), (14, []), (15, [])], [((.loc 1), []), ((.loc 2), []), ((.loc 4), [])])
  | 6 => ([(1, []), (2, []), (4, []), (14, []), (15, [])], [((.loc 1), []), ((.loc 2), []), ((.loc 4), [.any, .own .u64])])
  | 7 => ([(1, []), (2, []), (4, []), (28, []), (29, [])], [((.loc 1), []), ((.loc 2), []), ((.loc 4), [.any, .any, .own .tree])])
  | 8 => ([(1, []), (2, []), (4, []), (28, []), (29, []), (30, [])], [((.loc 1), []), ((.loc 2), []), ((.loc 4), [])])
  | 9 => ([(1, []), (2, []), (4, []), (6, []), (28, []), (29, [])], [((.loc 1), []), ((.loc 2), []), ((.loc 4), [])])
  | 10 => ([(1, []), (2, []), (4, []), (7, []), (8, []), (28, []), (29, [])], [((.loc 1), []), ((.loc 2), []), ((.loc 4), []), ((.loc 7), [])])
  | 11 => ([(1, []), (2, []), (4, []), (7, []), (8, []), (28, []), (29, []), (39, [])], [((.loc 1), []), ((.loc 2), []), ((.loc 4), []), ((.loc 7), [])])
  | 12 => ([(2, []), (3, [])], [((.loc 2), [])])
  | 13 => ([(1, []), (2, []), (4, []), (8, []), (9, []), (28, []), (29, [])], [((.loc 1), []), ((.loc 2), []), ((.loc 4), []), ((.loc 9), [])])
  | 14 => ([(1, []), (2, []), (4, []), (8, []), (9, []), (28, []), (29, []), (48, [])], [((.loc 1), []), ((.loc 2), []), ((.loc 4), []), ((.loc 9), [])])
  | 15 => ([(2, []), (3, [])], [((.loc 2), [])])
  | 16 => ([(1, []), (2, []), (4, []), (28, []), (29, [])], [((.loc 1), []), ((.loc 2), []), ((.loc 4), [])])
  | 17 => ([(1, []), (2, []), (4, []), (28, []), (29, [])], [((.loc 1), []), ((.loc 2), []), ((.loc 4), [.any, .any, .own .tree])])
  | 18 => ([(2, []), (3, [])], [((.loc 2), [])])
  | _ => ([], [])
noncomputable def head52_0 (r : Ref) (x15 : Int) (ml4_1 : List Int) : LSt U := (⟨[(1, .ptr (.loc 1) 0), (2, .ptr (.loc 2) 0), (4, .ptr (.loc 4) 0), (14, .c (.int .i64 (lenR (Ref.mk (Ref.a r) (Ref.kind r) (Ref.segment r) (Ref.at_ r) (Ref.data r) (Ref.kids r) (Ref.count r) (Ref.number r))))), (15, .c (.int .i64 x15))], [((.loc 1), [.po (U := U) .arena (Ref.a r), .int .i64 (Ref.kind r), .int .i64 (Ref.segment r), .int .i64 (Ref.at_ r), .int .i64 (Ref.data r), .int .i64 (Ref.kids r), .int .i64 (Ref.count r), .int .u64 (Ref.number r)]), ((.loc 2), [.int .i64 0, .nils, .nils]), ((.loc 4), [.int .i64 (Ref.kind (Ref.mk (Ref.a r) (Ref.kind r) (Ref.segment r) (Ref.at_ r) (Ref.data r) (Ref.kids r) (Ref.count r) (Ref.number r))), .slice (U := U) .u64 ml4_1 (.own (.l 4 1)), .nils])], []⟩ : LSt U)
noncomputable def head52_1 (r : Ref) (ml4_1 : List Int) (x29_a : Int) (ml4_2_a : List Tree) : LSt U := (⟨[(1, .ptr (.loc 1) 0), (2, .ptr (.loc 2) 0), (4, .ptr (.loc 4) 0), (28, .c (.int .i64 (kidsR (Ref.mk (Ref.a r) (Ref.kind r) (Ref.segment r) (Ref.at_ r) (Ref.data r) (Ref.kids r) (Ref.count r) (Ref.number r))))), (29, .c (.int .i64 x29_a))], [((.loc 1), [.po (U := U) .arena (Ref.a r), .int .i64 (Ref.kind r), .int .i64 (Ref.segment r), .int .i64 (Ref.at_ r), .int .i64 (Ref.data r), .int .i64 (Ref.kids r), .int .i64 (Ref.count r), .int .u64 (Ref.number r)]), ((.loc 2), [.int .i64 0, .nils, .nils]), ((.loc 4), [.int .i64 (Ref.kind (Ref.mk (Ref.a r) (Ref.kind r) (Ref.segment r) (Ref.at_ r) (Ref.data r) (Ref.kids r) (Ref.count r) (Ref.number r))), .slice (U := U) .u64 ml4_1 (.own (.l 4 1)), .slice (U := U) .tree ml4_2_a (.own (.l 4 2))])], []⟩ : LSt U)
noncomputable abbrev A52 (N : Nat) (p : List Nat) := awp cfg (know (know52 N)) (drawOk cfg (know (know52 N))) Try.f52.ntmps lv52 (cd Try.f52 p)
noncomputable abbrev S52 (N : Nat) (p : List Nat) := seqK cfg (know (know52 N)) (drawOk cfg (know (know52 N))) Try.f52.ntmps lv52 (cd Try.f52 p)
theorem vc52 (N : Nat) (r : Ref) (Q : AExit → LSt U → Prop) (h : ((pre22 ((Ref.mk (Ref.a r) (Ref.kind r) (Ref.segment r) (Ref.at_ r) (Ref.data r) (Ref.kids r) (Ref.count r) (Ref.number r)), ())) ∧ ((pre59 ((Ref.mk (Ref.a r) (Ref.kind r) (Ref.segment r) (Ref.at_ r) (Ref.data r) (Ref.kids r) (Ref.count r) (Ref.number r)), ())) ∧ (LoopWp (A52 N [1, 1, 0, 1, 0, 0]) (head52_0 r 0 ([])) (AExit.inBlock 0 (S52 N [1, 1, 1] Q)))))) :
    A52 N [] (⟨[(0, .agg [.po (U := U) .arena (Ref.a r), .int .i64 (Ref.kind r), .int .i64 (Ref.segment r), .int .i64 (Ref.at_ r), .int .i64 (Ref.data r), .int .i64 (Ref.kids r), .int .i64 (Ref.count r), .int .u64 (Ref.number r)])], [], []⟩ : LSt U) Q :=
  Eq.mpr (by kernel_rfl) h
theorem vc52_l0 (N : Nat) (r : Ref) (x15 : Int) (ml4_1 : List Int) (N0 : LSt U → Prop) (Q : AExit → LSt U → Prop) (h : (((decide ((x15 : Int) < (lenR (Ref.mk (Ref.a r) (Ref.kind r) (Ref.segment r) (Ref.at_ r) (Ref.data r) (Ref.kids r) (Ref.count r) (Ref.number r))))) = true → ((pre25 ((Ref.mk (Ref.a r) (Ref.kind r) (Ref.segment r) (Ref.at_ r) (Ref.data r) (Ref.kids r) (Ref.count r) (Ref.number r)), x15, ())) ∧ ((ml4_1.length + ([wordR (Ref.mk (Ref.a r) (Ref.kind r) (Ref.segment r) (Ref.at_ r) (Ref.data r) (Ref.kids r) (Ref.count r) (Ref.number r)) x15]).length) * 8 ≤ 140737488355328) ∧ ((InR ((x15 : Int) + 1)) ∧ (N0 (head52_0 r ((x15 : Int) + 1) (ml4_1 ++ ([wordR (Ref.mk (Ref.a r) (Ref.kind r) (Ref.segment r) (Ref.at_ r) (Ref.data r) (Ref.kids r) (Ref.count r) (Ref.number r)) x15]))))))) ∧ ((decide ((x15 : Int) < (lenR (Ref.mk (Ref.a r) (Ref.kind r) (Ref.segment r) (Ref.at_ r) (Ref.data r) (Ref.kids r) (Ref.count r) (Ref.number r))))) = false → (pre23 ((Ref.mk (Ref.a r) (Ref.kind r) (Ref.segment r) (Ref.at_ r) (Ref.data r) (Ref.kids r) (Ref.count r) (Ref.number r)), ())) ∧ (LoopWp (A52 N [1, 1, 1, 0, 1, 0, 0]) (head52_1 r ml4_1 0 ([])) (AExit.inBlock 2 (S52 N [1, 1, 1, 1] Q)))))) :
    A52 N [1, 1, 0, 1, 0, 0] (head52_0 r x15 ml4_1) (AExit.then N0 (AExit.inBlock 0 (S52 N [1, 1, 1] Q))) :=
  Eq.mpr (by kernel_rfl) h
theorem vc52_l1 (N : Nat) (r : Ref) (ml4_1 : List Int) (x29_a : Int) (ml4_2_a : List Tree) (N1 : LSt U → Prop) (Q : AExit → LSt U → Prop) (h : ∀ y_1, y_1 = (r) → ∀ y_2, y_2 = (liftX (Ref.a y_1) (kidX (segO (Ref.a y_1)) (unX y_1) x29_a).1) → ∀ y_3, y_3 = (y_2) → ∀ y_4, y_4 = ((valT y_3)) → (((decide ((x29_a : Int) < (kidsR y_1))) = true → ((pre24 (y_1, x29_a, ())) ∧ (((((((kidX (segO (Ref.a y_1)) (unX y_1) x29_a).2) : Int) != 0) = true → (Q .ret (⟨[(2, .ptr (.loc 2) 0), (3, .c (.int .i64 ((kidX (segO (Ref.a y_1)) (unX y_1) x29_a).2)))], [((.loc 2), [.int .i64 0, .nils, .nils])], []⟩ : LSt U))) ∧ (((((kidX (segO (Ref.a y_1)) (unX y_1) x29_a).2) : Int) != 0) = false → (pre52 (y_3, ())) ∧ (mu52 (y_3, ()) < N) ∧ (((((0 : Int) != 0) = true → (Q .ret (⟨[(2, .ptr (.loc 2) 0), (3, .c (.int .i64 0))], [((.loc 2), [.int .i64 0, .nils, .nils])], []⟩ : LSt U))) ∧ (((0 : Int) != 0) = false → ((ml4_2_a.length + ([y_4]).length) * 56 ≤ 140737488355328) ∧ ((InR ((x29_a : Int) + 1)) ∧ (N1 (head52_1 r ml4_1 ((x29_a : Int) + 1) (ml4_2_a ++ ([y_4]))))))))))))) ∧ ((decide ((x29_a : Int) < (kidsR y_1))) = false → (Q .ret (⟨[(2, .ptr (.loc 2) 0), (3, .c (.int .i64 0))], [((.loc 2), [.int .i64 (Ref.kind y_1), .slice (U := U) .u64 ml4_1 (.own (.l 2 1)), .slice (U := U) .tree ml4_2_a (.own (.l 2 2))])], []⟩ : LSt U))))) :
    A52 N [1, 1, 1, 0, 1, 0, 0] (head52_1 r ml4_1 x29_a ml4_2_a) (AExit.then N1 (AExit.inBlock 2 (S52 N [1, 1, 1, 1] Q))) :=
  Eq.mpr (by kernel_rfl) (h _ (reRef_eq _) _ rfl _ (reRef_eq _) _ (reTree_eq _))
def Body52 (N : Nat) (r : Ref)  : Prop := awp cfg (know (know52 N)) (drawOk cfg (know (know52 N))) Try.f52.ntmps lv52 (cd Try.f52 []) (entry (args52.can (r, ())) []) (EndsQ cfg Try.f52.ntmps Try.f52.results.toList (res52 (r, ())) [])
theorem make52 (c22 : Contract Try.prog cfg 22 spec22) (c59 : Contract Try.prog cfg 59 spec59) (c25 : Contract Try.prog cfg 25 spec25) (c23 : Contract Try.prog cfg 23 spec23) (c24 : Contract Try.prog cfg 24 spec24) (hb : ∀ (N : Nat) (r : Ref) (_ : Unit), pre52 (r, ()) → mu52 (r, ()) < N + 1 → Body52 N r) : Contract Try.prog cfg 52 spec52 :=
  contract_rec (μ := mu52) (l := [(22, spec22), (59, spec59), (25, spec25), (23, spec23), (24, spec24)]) cfgOk rfl (⟨c22, c59, c25, c23, c24, trivial⟩) lv52 Try.func52 rfl rfl 1 (fun _ => rfl) (by decide) (fun N ⟨r, _⟩ => hb N r ())
noncomputable def know48 : List (FuncId × Fs U) := [(40, spec40), (21, spec21), (52, spec52), (72, spec72)]
def lv48 : Lives U := fun i => match i with
  | 0 => ([(0, []), (3, []), (4, [])], [((.loc 3), []), ((.loc 4), [])])
  | 1 => ([(0, []), (4, []), (7, [])], [((.loc 4), [])])
  | 2 => ([(0, []), (4, []), (7, []), (18, [])], [((.loc 4), [])])
  | 3 => ([(4, []), (5, [])], [((.loc 4), [])])
  | 4 => ([(4, []), (8, []), (9, [])], [((.loc 4), []), ((.loc 8), [])])
  | 5 => ([(4, []), (8, []), (9, []), (27, [])], [((.loc 4), []), ((.loc 8), [])])
  | 6 => ([(4, []), (5, [])], [((.loc 4), [])])
  | 7 => ([(4, []), (9, []), (10, [])], [((.loc 4), []), ((.loc 10), [])])
  | 8 => ([(4, []), (5, [])], [((.loc 4), [])])
  | _ => ([], [])
noncomputable abbrev A48 (p : List Nat) := awp cfg (know know48) (drawOk cfg (know know48)) Try.f48.ntmps lv48 (cd Try.f48 p)
theorem vc48 (a : Option Arena) (x : Limits) (Q : AExit → LSt U → Prop) (h : ∀ y_1, y_1 = (x) → ∀ y_2, y_2 = ((liftX a (refAt (segO a) 0 0).1)) → ∀ y_3, y_3 = ((valT y_2)) → ((pre40 (a, y_1, ())) ∧ (((((((unfV (segO a) y_1).2.2) : Int) != 0) = true → (Q .ret (⟨[(4, .ptr (.loc 4) 0), (5, .c (.int .i64 ((unfV (segO a) y_1).2.2)))], [((.loc 4), [.int .i64 0, .nils, .nils])], []⟩ : LSt U))) ∧ (((((unfV (segO a) y_1).2.2) : Int) != 0) = false → (pre21 (a, ())) ∧ (((((((refAt (segO a) 0 0).2) : Int) != 0) = true → (Q .ret (⟨[(4, .ptr (.loc 4) 0), (5, .c (.int .i64 ((refAt (segO a) 0 0).2)))], [((.loc 4), [.int .i64 0, .nils, .nils])], []⟩ : LSt U))) ∧ (((((refAt (segO a) 0 0).2) : Int) != 0) = false → (pre52 (y_2, ())) ∧ ((pre72 (y_3, ())) ∧ (Q .ret (⟨[(4, .ptr (.loc 4) 0), (5, .c (.int .i64 0))], [((.loc 4), [.int .i64 (Tree.kind (normT y_3)), .slice (U := U) .u64 (Tree.words (normT y_3)) .unk, .slice (U := U) .tree (Tree.kids (normT y_3)) .unk])], []⟩ : LSt U))))))))))) :
    A48 [] (⟨[(0, .c (.po (U := U) .arena a)), (1, .agg [.int .i64 (Limits.depth x), .int .i64 (Limits.weight x), .int .i64 (Limits.maxD x), .int .i64 (Limits.maxOut x)])], [], []⟩ : LSt U) Q :=
  Eq.mpr (by kernel_rfl) (h _ (reLimits_eq _) _ (reRef_eq _) _ (reTree_eq _))
def Body48 (a : Option Arena) (x : Limits)  : Prop := awp cfg (know (know48)) (drawOk cfg (know (know48))) Try.f48.ntmps lv48 (cd Try.f48 []) (entry (args48.can (a, x, ())) []) (EndsQ cfg Try.f48.ntmps Try.f48.results.toList (res48 (a, x, ())) [])
theorem make48 (c40 : Contract Try.prog cfg 40 spec40) (c21 : Contract Try.prog cfg 21 spec21) (c52 : Contract Try.prog cfg 52 spec52) (c72 : Contract Try.prog cfg 72 spec72) (hb : ∀ (a : Option Arena) (x : Limits) (_ : Unit), pre48 (a, x, ()) → Body48 a x) : Contract Try.prog cfg 48 spec48 :=
  contract_flat (l := [(40, spec40), (21, spec21), (52, spec52), (72, spec72)]) cfgOk rfl (⟨c40, c21, c52, c72, trivial⟩) lv48 Try.func48 rfl rfl 2 (fun _ => rfl) (by decide) (fun ⟨a, x, _⟩ => hb a x ())
end Go.AM.Ythokdjgpdonhgaa

namespace Go.AM.Ythokdjgpdonhgaa
open Go.AM Go.Proofs
theorem take_getD {α : Type} (l : List α) (d : α) (i : Int) (h0 : 0 ≤ i) (h : i < l.length) : l.take i.toNat ++ [l.getD i.toNat d] = l.take (i + 1).toNat := by
  rw [show (i + 1).toNat = i.toNat + 1 by omega, List.getD_eq_getElem?_getD, List.getElem?_eq_getElem (show i.toNat < l.length by omega), Option.getD_some]
  exact List.take_append_getElem (by omega)
theorem mass_kid {k : Int} {w : List Int} {ks : List Tree} {i : Nat} (h : i < ks.length) : mass (ks.getD i Tree.nil) < mass (.mk k w ks) := by
  have := massK_get h
  rw [mass]
  omega
theorem c52 : Contract Try.prog cfg 52 spec52 := by
  refine make52 c22 c59 c25 c23 c24 ?_
  rintro N r _ hp hN
  obtain ⟨hr, he⟩ := hp
  dsimp only at hr he
  have hN' : mass (valT r) < N + 1 := hN
  have hg := val_good hr he
  obtain ⟨ks, e0, hks, hkid⟩ := val_kids hr.1 hr.2 he
  have e0' : valT r = ⟨r.kind, wordsX (segO r.a) (unX r), ks⟩ := e0
  have hkd : kidsR r = ks.length := by rw [kidsR_un]; exact hks.symm
  have hw : ((wordsX (segO r.a) (unX r)).length : Int) = lenR r := by
    rw [(wordsX_rng hr.1 hr.2).2]
    have hk : (unX r).kind = r.kind := rfl
    have hd : (unX r).data = r.data := rfl
    rw [hk, hd]
    unfold lenR
    by_cases h1 : r.kind = 1
    · simp [h1]
    · simp [h1]
  have hm : (wordsX (segO r.a) (unX r)).length + ks.length ≤ 140000 := by
    have h1 := hg.2.2
    have h2 := massK_len ks
    rw [e0', mass] at h1
    omega
  have fin : EndsQ cfg Try.f52.ntmps Try.f52.results.toList (res52 (r, ())) [] .ret (⟨[(2, .ptr (.loc 2) 0), (3, .c (.int .i64 0))], [((.loc 2), [.int .i64 r.kind, .slice .u64 (wordsX (segO r.a) (unX r)) (.own (.l 2 1)), .slice .tree ks (.own (.l 2 2))])], []⟩ : LSt U) := by
    have h : EndsQ cfg Try.f52.ntmps Try.f52.results.toList (.tup [(true, enc .tree ⟨r.kind, wordsX (segO r.a) (unX r), ks⟩), (false, [.int .i64 0])]) [] .ret (⟨[(2, .ptr (.loc 2) 0), (3, .c (.int .i64 0))], [((.loc 2), [.int .i64 r.kind, .slice .u64 (wordsX (segO r.a) (unX r)) (.own (.l 2 1)), .slice .tree ks (.own (.l 2 2))])], []⟩ : LSt U) := by (repeat' (first | exact trivial | exact rfl | apply And.intro))
    refine ends_eq ?_ h
    simp only [res52]
    rw [e0']
    rfl
  refine vc52 N _ _ ?_
  refine ⟨trivial, trivial, ?_⟩
  refine loop_rule (ι := Int) (fun p => head52_0 r p ((wordsX (segO r.a) (unX r)).take p.toNat)) (fun p => 0 ≤ p ∧ p ≤ lenR r) (fun p => (lenR r - p).toNat) 0 rfl ⟨by omega, by omega⟩ ?_
  rintro i ⟨h1, h2⟩
  refine vc52_l0 _ _ _ _ _ _ ?_
  (simp only [vcT, vcS])
  refine ⟨fun hi => ⟨hr, by simp only [List.length_append, List.length_take, List.length_cons, List.length_nil]; omega, by ((unfold InR; omega)), i + 1, ?_, ⟨by omega, ?_⟩, ?_⟩, fun hi => ⟨trivial, ?_⟩⟩
  · show head52_0 r (i + 1) (_ ++ [wordR r i]) = head52_0 r (i + 1) _
    have hi' : i < lenR r := hi
    rw [← take_getD (wordsX (segO r.a) (unX r)) 0 i h1 (by omega)]
    unfold wordR
    rw [if_neg (by omega)]
  · have hi' : i < lenR r := hi
    omega
  · have hi' : i < lenR r := hi
    omega
  · have hi' : ¬ i < lenR r := hi
    rw [List.take_of_length_le (by omega)]
    refine loop_rule (ι := Int) (fun p => head52_1 r (wordsX (segO r.a) (unX r)) p (ks.take p.toNat)) (fun p => 0 ≤ p ∧ p ≤ ks.length) (fun p => ((ks.length : Int) - p).toNat) 0 rfl ⟨by omega, by omega⟩ ?_
    rintro j ⟨g1, g2⟩
    refine vc52_l1 _ _ _ _ _ _ _ ?_
    rintro y1 hy1 y2 hy2 y3 hy3 y4 hy4
    replace hy1 := hy1.symm
    subst hy1
    subst hy3
    (simp only [vcT, vcS])
    rw [hkd]
    refine ⟨fun hj => ?_, fun hj => ?_⟩
    · obtain ⟨q1, q2, q3⟩ := hkid j g1 (by rw [← hks]; exact hj)
      have hkx := okX_kid hr.1 hr.2 j
      have hl := val_lift hkx
      rw [← hy2] at hl
      rw [← hl.1, ← hy4] at q3
      have hmk := mass_kid (k := r.kind) (w := wordsX (segO r.a) (unX r)) (ks := ks) (i := j.toNat) (by omega)
      rw [q3, ← e0'] at hmk
      refine ⟨hr, fun h => absurd q1 h, fun _ => ⟨⟨?_, hl.2 q2⟩, ?_, fun h => absurd trivial h, by simp only [List.length_append, List.length_take, List.length_cons, List.length_nil]; omega, by ((unfold InR; omega)), j + 1, ?_, ⟨by omega, by omega⟩, by omega⟩⟩
      · show okR y3
        rw [hy2]
        exact okR_lift hr.1 hkx
      · show mass (valT y3) < N
        rw [← hy4]
        omega
      · rw [← take_getD ks Tree.nil j g1 hj, q3]
    · rw [List.take_of_length_le (by omega)]
      exact fin
theorem c48 : Contract Try.prog cfg 48 spec48 := by
  refine make48 c40 c21 c52 c72 ?_
  rintro a x _ ha
  simp only [pre48] at ha
  refine vc48 _ _ _ ?_
  rintro y1 hy1 y2 hy2 y3 hy3
  replace hy1 := hy1.symm
  subst hy1
  (simp only [vcT, vcS])
  have fin : ∀ {T : Tree} {e : Int}, normT (unfV (segO a) x).1 = T → (unfV (segO a) x).2.2 = e → ∀ {s : LSt U},
      EndsQ cfg Try.f48.ntmps Try.f48.results.toList (.tup [(true, enc .tree T), (false, [.int .i64 e])]) [] .ret s → EndsQ cfg Try.f48.ntmps Try.f48.results.toList (res48 (a, x, ())) [] .ret s := by
    intro T e h1 h2 s hs
    refine ends_eq ?_ hs
    simp only [res48]
    rw [h1, h2]
    rfl
  refine ⟨ha, fun he => fin (T := Tree.nil) (by rw [unf_nil he]; rfl) rfl (by (repeat' (first | exact trivial | exact rfl | apply And.intro))), fun he => ?_⟩
  obtain ⟨u1, u2, u3⟩ := unf_root he
  have hx := okX_at ha 0 0
  have hl := val_lift hx
  rw [← hy2] at hl
  have hok : okR y2 := by rw [hy2]; exact okR_lift ha hx
  have hg := val_good hok (hl.2 u2)
  rw [← hl.1, ← hy3] at u3
  rw [← hy3] at hg
  refine ⟨ha, fun h => absurd u1 h, fun _ => ⟨⟨hok, hl.2 u2⟩, by show mass y3 ≤ _; omega, fin (T := normT y3) (by rw [u3]) he (by (repeat' (first | exact trivial | exact rfl | apply And.intro)))⟩⟩
end Go.AM.Ythokdjgpdonhgaa

namespace Go.AM.Ythokdjgpdonhgaa
open Go.AM Go.Proofs
def decC (l : List Int) (x : Limits) : Tree × Int :=
  if (unfV [l] x).2.2 = 0 then
    if (encP (normT (unfV [l] x).1) 131072).2 = true ∧ l = (encP (normT (unfV [l] x).1) 131072).1 then (normT (unfV [l] x).1, 0) else (Tree.nil, 5)
  else (Tree.nil, (unfV [l] x).2.2)
end Go.AM.Ythokdjgpdonhgaa

namespace Go.AM.Ythokdjgpdonhgaa
open Go.AM Go.Proofs
def args53 : ArgL (List Int × Limits × Unit) := (.cons (aSl .u64) (.cons (aEl .limits) .nil))
def pre53 (a : List Int × Limits × Unit) : Prop := okSeg [a.1]
noncomputable def res53 (a : List Int × Limits × Unit) : V U := .tup [(true, [.int .i64 (Tree.kind ((decC a.1 a.2.1).1)), .slice (U := U) .u64 (Tree.words ((decC a.1 a.2.1).1)) .unk, .slice (U := U) .tree (Tree.kids ((decC a.1 a.2.1).1)) .unk]), (false, [.int .i64 ((decC a.1 a.2.1).2)])]
noncomputable def spec53 : Fs U := fs args53 (fun a => [pre53 a]) res53
def args55 : ArgL (Tree × Unit) := (.cons (aEl .tree) .nil)
def pre55 (a : Tree × Unit) : Prop := mass a.1 ≤ 1000000
def mu55 (a : Tree × Unit) : Nat := mass a.1
noncomputable def res55 (a : Tree × Unit) : V U := .agg [.int .i64 (Tree.kind (framT a.1)), .slice (U := U) .u64 (Tree.words (framT a.1)) .unk, .slice (U := U) .tree (Tree.kids (framT a.1)) .unk]
noncomputable def spec55 : Fs U := fs args55 (fun a => [pre55 a]) res55
def args17 : ArgL (Tree × Unit) := (.cons (aEl .tree) .nil)
def pre17 (a : Tree × Unit) : Prop := small a.1 ∧ rng a.1
noncomputable def res17 (a : Tree × Unit) : V U := .c (.bool true)
noncomputable def spec17 : Fs U := fs args17 (fun a => [pre17 a]) res17
noncomputable def know53 : List (FuncId × Fs U) := [(20, spec20), (48, spec48), (35, spec35), (81, spec81)]
def lv53 : Lives U := fun i => match i with
  | 0 => ([(0, []), (3, []), (4, [])], [((.loc 3), []), ((.loc 4), [])])
  | 1 => ([(0, []), (4, []), (6, []), (7, [])], [((.loc 4), []), ((.loc 6), [])])
  | 2 => ([(0, []), (4, []), (6, []), (7, []), (19, [])], [((.loc 4), []), ((.loc 6), [])])
  | 3 => ([(4, []), (5, [])], [((.loc 4), [])])
  | 4 => ([(0, []), (4, []), (6, []), (8, []), (9, [])], [((.loc 4), []), ((.loc 6), [])])
  | 5 => ([(4, []), (6, []), (34, [])], [((.loc 4), []), ((.loc 6), [])])
  | 6 => ([(4, []), (5, [])], [((.loc 4), [])])
  | 7 => ([(4, []), (5, [])], [((.loc 4), [])])
  | _ => ([], [])
noncomputable abbrev A53 (p : List Nat) := awp cfg (know know53) (drawOk cfg (know know53)) Try.f53.ntmps lv53 (cd Try.f53 p)
theorem vc53 (l : List Int) (x : Limits) (Q : AExit → LSt U → Prop) (h : ∀ y_1, y_1 = (x) → ∀ y_2, y_2 = ((normT (unfV (segO (some (Arena.mk ([l]) 0 0 0))) y_1).1)) → ((pre20 (([l]), ())) ∧ (pre48 ((some (Arena.mk ([l]) 0 0 0)), y_1, ())) ∧ (((((((unfV (segO (some (Arena.mk ([l]) 0 0 0))) y_1).2.2) : Int) != 0) = true → (Q .ret (⟨[(4, .ptr (.loc 4) 0), (5, .c (.int .i64 ((unfV (segO (some (Arena.mk ([l]) 0 0 0))) y_1).2.2)))], [((.loc 4), [.int .i64 0, .nils, .nils])], []⟩ : LSt U))) ∧ (((((unfV (segO (some (Arena.mk ([l]) 0 0 0))) y_1).2.2) : Int) != 0) = false → (pre35 (y_2, 131072, ())) ∧ ((Tr ((!(!((encP y_2 131072).2))) = true)) ∧ (Tr ((!(!((encP y_2 131072).2))) = true)) ∧ ((!(!((encP y_2 131072).2))) = true → pre81 (l, ((encP y_2 131072).1), ())) ∧ (Tr ((!(!((encP y_2 131072).2))) = true)) ∧ (((!((encP y_2 131072).2)) = false → (!(!((encP y_2 131072).2))) = true)) ∧ (((bif (!((encP y_2 131072).2)) then true else (!(decide (l = ((encP y_2 131072).1))))) = true → (Q .ret (⟨[(4, .ptr (.loc 4) 0), (5, .c (.int .i64 5))], [((.loc 4), [.int .i64 0, .nils, .nils])], []⟩ : LSt U))) ∧ ((bif (!((encP y_2 131072).2)) then true else (!(decide (l = ((encP y_2 131072).1))))) = false → (Q .ret (⟨[(4, .ptr (.loc 4) 0), (5, .c (.int .i64 0))], [((.loc 4), [.int .i64 (Tree.kind (normT (unfV (segO (some (Arena.mk ([l]) 0 0 0))) y_1).1)), .slice (U := U) .u64 (Tree.words (normT (unfV (segO (some (Arena.mk ([l]) 0 0 0))) y_1).1)) .unk, .slice (U := U) .tree (Tree.kids (normT (unfV (segO (some (Arena.mk ([l]) 0 0 0))) y_1).1)) .unk])], []⟩ : LSt U)))))))))) :
    A53 [] (⟨[(0, .c (.slice (U := U) .u64 l .unk)), (1, .agg [.int .i64 (Limits.depth x), .int .i64 (Limits.weight x), .int .i64 (Limits.maxD x), .int .i64 (Limits.maxOut x)])], [], []⟩ : LSt U) Q :=
  (Eq.mpr (by kernel_rfl) (h _ (reLimits_eq _) _ (reTree_eq _)) :)
abbrev Body53 (l : List Int) (x : Limits)  : Prop := awp cfg (know (know53)) (drawOk cfg (know (know53))) Try.f53.ntmps lv53 (cd Try.f53 []) (entry (args53.can (l, x, ())) []) (EndsQ cfg Try.f53.ntmps Try.f53.results.toList (res53 (l, x, ())) [])
theorem make53 (c20 : Contract Try.prog cfg 20 spec20) (c48 : Contract Try.prog cfg 48 spec48) (c35 : Contract Try.prog cfg 35 spec35) (c81 : Contract Try.prog cfg 81 spec81) (hb : ∀ (l : List Int) (x : Limits) (_ : Unit), pre53 (l, x, ()) → Body53 l x) : Contract Try.prog cfg 53 spec53 :=
  contract_flat (l := [(20, spec20), (48, spec48), (35, spec35), (81, spec81)]) cfgOk rfl (⟨c20, c48, c35, c81, trivial⟩) lv53 Try.func53 rfl rfl 2 (fun _ => rfl) (by decide) (fun ⟨l, x, _⟩ => hb l x ())
noncomputable def know55 (N : Nat) : List (FuncId × Fs U) := (55, fs args55 (fun a => [pre55 a, mu55 a < N]) res55) :: [(82, spec82)]
def lv55 : Lives U := fun i => match i with
  | 0 => ([(1, []), (2, [])], [((.loc 1), []), ((.loc 2), [])])
  | 1 => ([(1, []), (2, []), (3, [])], [((.loc 1), []), ((.loc 2), []), ((.loc 3), [])])
  | 2 => ([(1, []), (2, []), (3, []), (4, []), (5, [])], [((.loc 1), []), ((.loc 2), []), ((.loc 3), [])])
  | 3 => ([(1, []), (2, []), (3, []), (4, []), (5, []), (6, [])], [((.loc 1), []), ((.loc 2), []), ((.loc 3), [.any, .any, .own .tree])])
  | 4 => ([(1, []), (2, []), (3, []), (4, []), (5, []), (6, []), (22, [])], [((.loc 1), []), ((.loc 2), []), ((.loc 3), [])])
  | 5 => ([(1, []), (2, []), (3, []), (4, []), (5, []), (6, [])], [((.loc 1), []), ((.loc 2), []), ((.loc 3), [.any, .any, .own .tree])])
  | 6 => ([(1, []), (2, []), (3, []), (4, []), (5, []), (6, []), (7, [])], [((.loc 1), []), ((.loc 2), []), ((.loc 3), []), ((.loc 7), [])])
  | 7 => ([(1, []), (2, []), (3, []), (4, []), (5, []), (6, []), (7, []), (33, [])], [((.loc 1), []), ((.loc 2), []), ((.loc 3), []), ((.loc 7), [])])
  | 8 => ([(1, []), (2, []), (3, []), (4, []), (5, []), (6, []), (7, [])], [((.loc 1), []), ((.loc 2), []), ((.loc 3), []), ((.loc 7), [])])
  | 9 => ([(1, []), (2, []), (3, []), (4, []), (5, []), (6, []), (7, [])], [((.loc 1), []), ((.loc 2), []), ((.loc 3), []), ((.loc 7), [])])
  | 10 => ([(1, []), (2, []), (3, []), (4, []), (5, []), (6, [])], [((.loc 1), []), ((.loc 2), []), ((.loc 3), [])])
  | 11 => ([(2, [])], [((.loc 2), [])])
  | _ => ([], [])
noncomputable def head55_0 (t : Tree) (x6 : Int) (ml3_2 : List Tree) : LSt U := (⟨[(1, .ptr (.loc 1) 0), (2, .ptr (.loc 2) 0), (3, .ptr (.loc 3) 0), (4, .c (.int .i64 (frW (Tree.kids (Tree.mk (Tree.kind t) (Tree.words t) (Tree.kids t))) : Int))), (5, .c (.int .i64 (frK (Tree.kids (Tree.mk (Tree.kind t) (Tree.words t) (Tree.kids t))) : Int))), (6, .c (.int .i64 x6))], [((.loc 1), [.int .i64 (Tree.kind t), .slice (U := U) .u64 (Tree.words t) .unk, .slice (U := U) .tree (Tree.kids t) .unk]), ((.loc 2), [.int .i64 0, .nils, .nils]), ((.loc 3), [.int .i64 (Tree.kind t), .slice (U := U) .u64 (Tree.words t) .unk, .slice (U := U) .tree ml3_2 (.own (.l 3 2))])], []⟩ : LSt U)
noncomputable abbrev A55 (N : Nat) (p : List Nat) := awp cfg (know (know55 N)) (drawOk cfg (know (know55 N))) Try.f55.ntmps lv55 (cd Try.f55 p)
noncomputable abbrev S55 (N : Nat) (p : List Nat) := seqK cfg (know (know55 N)) (drawOk cfg (know (know55 N))) Try.f55.ntmps lv55 (cd Try.f55 p)
theorem vc55 (N : Nat) (t : Tree) (Q : AExit → LSt U → Prop) (h : (((pre82 ((Tree.mk (Tree.kind t) (Tree.words t) (Tree.kids t)), ())) ∧ ((LoopWp (A55 N [1, 1, 1, 0, 1, 0, 0]) (head55_0 t 0 ([])) (AExit.inBlock 0 (S55 N [1, 1, 1, 1] Q))))))) :
    A55 N [] (⟨[(0, .agg [.int .i64 (Tree.kind t), .slice (U := U) .u64 (Tree.words t) .unk, .slice (U := U) .tree (Tree.kids t) .unk])], [], []⟩ : LSt U) Q :=
  (Eq.mpr (by kernel_rfl) h :)
theorem vc55_l0 (N : Nat) (t : Tree) (x6 : Int) (ml3_2 : List Tree) (N0 : LSt U → Prop) (Q : AExit → LSt U → Prop) (h : ∀ y_1, y_1 = (t) → ∀ y_2, y_2 = (List.getD (Tree.kids t) (Int.toNat x6) Tree.nil) → ∀ y_3, y_3 = (y_2) → ∀ y_4, y_4 = ((framT y_3)) → (((decide ((x6 : Int) < ((Tree.kids t).length : Int))) = true → ((0 : Int) ≤ x6 ∧ x6 < ((Tree.kids t).length : Int)) ∧ (pre55 (y_3, ())) ∧ (mu55 (y_3, ()) < N) ∧ ((((((Tree.kind t) : Int) == 9) = true → ((([] : List Int).length + (Tree.words (framT y_3)).length) * 8 ≤ 140737488355328) ∧ (InR (((frW (Tree.kids y_1) : Int) : Int) - ((Tree.words (framT y_3)).length : Int))) ∧ ((0 : Int) ≤ ((frW (Tree.kids y_1) : Int) : Int) - ((Tree.words (framT y_3)).length : Int) ∧ (((([] : List Int) ++ (Tree.words (framT y_3))).length : Int) + (((frW (Tree.kids y_1) : Int) : Int) - ((Tree.words (framT y_3)).length : Int))) * ((8 : Nat) : Int) ≤ 140737488355328) ∧ (((([] : List Tree).length + (Tree.kids (framT y_3)).length) * 56 ≤ 140737488355328) ∧ (InR (((frK (Tree.kids y_1) : Int) : Int) - ((Tree.kids (framT y_3)).length : Int))) ∧ ((0 : Int) ≤ ((frK (Tree.kids y_1) : Int) : Int) - ((Tree.kids (framT y_3)).length : Int) ∧ (((([] : List Tree) ++ (Tree.kids (framT y_3))).length : Int) + (((frK (Tree.kids y_1) : Int) : Int) - ((Tree.kids (framT y_3)).length : Int))) * ((56 : Nat) : Int) ≤ 140737488355328) ∧ (((ml3_2.length + ([(Tree.mk (Tree.kind (framT y_3)) ((([] : List Int) ++ (Tree.words (framT y_3))) ++ List.replicate (Int.toNat (((frW (Tree.kids y_1) : Int) : Int) - ((Tree.words (framT y_3)).length : Int))) (0 : Int)) ((([] : List Tree) ++ (Tree.kids (framT y_3))) ++ List.replicate (Int.toNat (((frK (Tree.kids y_1) : Int) : Int) - ((Tree.kids (framT y_3)).length : Int))) Tree.nil))]).length) * 56 ≤ 140737488355328) ∧ ((InR ((x6 : Int) + 1)) ∧ (N0 (head55_0 t ((x6 : Int) + 1) (ml3_2 ++ ([(Tree.mk (Tree.kind (framT y_3)) ((([] : List Int) ++ (Tree.words (framT y_3))) ++ List.replicate (Int.toNat (((frW (Tree.kids y_1) : Int) : Int) - ((Tree.words (framT y_3)).length : Int))) (0 : Int)) ((([] : List Tree) ++ (Tree.kids (framT y_3))) ++ List.replicate (Int.toNat (((frK (Tree.kids y_1) : Int) : Int) - ((Tree.kids (framT y_3)).length : Int))) Tree.nil))])))))))) ∧ ((((Tree.kind t) : Int) == 9) = false → ((ml3_2.length + ([y_4]).length) * 56 ≤ 140737488355328) ∧ ((InR ((x6 : Int) + 1)) ∧ (N0 (head55_0 t ((x6 : Int) + 1) (ml3_2 ++ ([y_4]))))))))) ∧ ((decide ((x6 : Int) < ((Tree.kids t).length : Int))) = false → (Q .ret (⟨[(2, .ptr (.loc 2) 0)], [((.loc 2), [.int .i64 (Tree.kind t), .slice (U := U) .u64 (Tree.words t) .unk, .slice (U := U) .tree ml3_2 (.own (.l 2 2))])], []⟩ : LSt U))))) :
    A55 N [1, 1, 1, 0, 1, 0, 0] (head55_0 t x6 ml3_2) (AExit.then N0 (AExit.inBlock 0 (S55 N [1, 1, 1, 1] Q))) :=
  (Eq.mpr (by kernel_rfl) (h _ (reTree_eq _) _ rfl _ (reTree_eq _) _ (reTree_eq _)) :)
abbrev Body55 (N : Nat) (t : Tree)  : Prop := awp cfg (know (know55 N)) (drawOk cfg (know (know55 N))) Try.f55.ntmps lv55 (cd Try.f55 []) (entry (args55.can (t, ())) []) (EndsQ cfg Try.f55.ntmps Try.f55.results.toList (res55 (t, ())) [])
theorem make55 (c82 : Contract Try.prog cfg 82 spec82) (hb : ∀ (N : Nat) (t : Tree) (_ : Unit), pre55 (t, ()) → mu55 (t, ()) < N + 1 → Body55 N t) : Contract Try.prog cfg 55 spec55 :=
  contract_rec (μ := mu55) (l := [(82, spec82)]) cfgOk rfl (⟨c82, trivial⟩) lv55 Try.func55 rfl rfl 1 (fun _ => rfl) (by decide) (fun N ⟨t, _⟩ => hb N t ())
noncomputable def know17 : List (FuncId × Fs U) := [(33, spec33), (43, spec43), (50, spec50), (35, spec35), (54, spec54), (46, spec46), (55, spec55), (48, spec48), (20, spec20), (53, spec53), (49, spec49), (34, spec34)]
def lv17 : Lives U := fun i => match i with
  | 0 => ([(1, [])], [((.loc 1), [])])
  | 1 => ([(1, []), (23, [])], [((.loc 1), [])])
  | 2 => ([(2, [])], [])
  | 3 => ([(1, []), (3, [])], [((.loc 1), []), ((.loc 3), [])])
  | 4 => ([(3, []), (4, []), (5, [])], [((.loc 3), [])])
  | 5 => ([(3, []), (4, []), (5, []), (34, [])], [((.loc 3), [])])
  | 6 => ([(2, [])], [])
  | 7 => ([(3, []), (4, []), (5, []), (6, [])], [((.loc 3), []), ((.loc 6), [])])
  | 8 => ([(3, []), (4, []), (5, []), (6, []), (44, [])], [((.loc 3), []), ((.loc 6), [])])
  | 9 => ([(2, [])], [])
  | 10 => ([(3, []), (4, []), (5, []), (6, []), (7, []), (8, [])], [((.loc 3), []), ((.loc 6), []), ((.loc 7), [])])
  | 11 => ([(3, []), (4, []), (5, []), (7, []), (8, []), (9, []), (10, [])], [((.loc 3), []), ((.loc 7), []), ((.loc 9), [])])
  | 12 => ([(2, [])], [])
  | _ => ([], [])
noncomputable abbrev A17 (p : List Nat) := awp cfg (know know17) (drawOk cfg (know know17)) Try.f17.ntmps lv17 (cd Try.f17 p)
theorem vc17 (t : Tree) (Q : AExit → LSt U → Prop) (h : ∀ y_1, y_1 = (t) → ∀ y_2, y_2 = ((normT y_1)) → ∀ y_3, y_3 = (((decC ((encP y_1 131072).1) (Limits.mk 64 65536 0 0)).1)) → ∀ y_4, y_4 = (unfV (segO (some (Arena.mk ([(encP y_1 131072).1]) 0 0 0))) (Limits.mk 64 65536 0 0)) → ∀ y_5, y_5 = ((framT y_2)) → ∀ y_6, y_6 = ((normT y_4.1)) → ((pre33 (y_1, ())) ∧ (Tr ((!(!(decide (0 ≤ shallow y_1 80 3000)))) = true)) ∧ ((!(!(decide (0 ≤ shallow y_1 80 3000)))) = true → pre43 (y_1, 64, ())) ∧ (Tr ((!(!(decide (0 ≤ shallow y_1 80 3000)))) = true)) ∧ (((!(decide (0 ≤ shallow y_1 80 3000))) = false → (!(!(decide (0 ≤ shallow y_1 80 3000)))) = true)) ∧ (Tr ((!(bif (!(decide (0 ≤ shallow y_1 80 3000))) then true else (!(rightT y_1 64)))) = true)) ∧ (Tr ((!(bif (!(decide (0 ≤ shallow y_1 80 3000))) then true else (!(rightT y_1 64)))) = true)) ∧ (((bif (!(decide (0 ≤ shallow y_1 80 3000))) then true else (!(rightT y_1 64))) = false → (!(bif (!(decide (0 ≤ shallow y_1 80 3000))) then true else (!(rightT y_1 64)))) = true)) ∧ (((bif (bif (!(decide (0 ≤ shallow y_1 80 3000))) then true else (!(rightT y_1 64))) then true else (((Tree.kind t) : Int) == 10)) = true → (pre34 (())) ∧ (Q .ret (⟨[(2, .c (.bool true))], [], []⟩ : LSt U))) ∧ ((bif (bif (!(decide (0 ≤ shallow y_1 80 3000))) then true else (!(rightT y_1 64))) then true else (((Tree.kind t) : Int) == 10)) = false → (pre50 (y_1, ())) ∧ ((pre35 (y_1, 131072, ())) ∧ ((pre54 (y_2, ())) ∧ (((decide ((131072 : Int) ≤ (sizeN y_2 : Int))) = true → ((!((encP y_1 131072).2)) = true → pre34 (())) ∧ ((Tr ((!((encP y_1 131072).2)) = true))) ∧ (Q .ret (⟨[(2, .c (.bool (bif (!((encP y_1 131072).2)) then true else false)))], [], []⟩ : LSt U))) ∧ ((decide ((131072 : Int) ≤ (sizeN y_2 : Int))) = false → ((pre55 (y_2, ())) ∧ (pre46 (y_5, ())) ∧ (((decide ((65536 : Int) < (weight y_5))) = true → (((encP y_1 131072).2) = true → pre34 (())) ∧ ((Tr (((encP y_1 131072).2) = true))) ∧ (Q .ret (⟨[(2, .c (.bool (bif ((encP y_1 131072).2) then true else false)))], [], []⟩ : LSt U))) ∧ ((decide ((65536 : Int) < (weight y_5))) = false → (pre20 (([(encP y_1 131072).1]), ())) ∧ (pre48 ((some (Arena.mk ([(encP y_1 131072).1]) 0 0 0)), (Limits.mk 64 65536 0 0), ())) ∧ ((pre53 (((encP y_1 131072).1), (Limits.mk 64 65536 0 0), ())) ∧ ((Tr (((encP y_1 131072).2) = true)) ∧ (Tr (((encP y_1 131072).2) = true)) ∧ (((encP y_1 131072).2) = true → pre54 (y_2, ())) ∧ (Tr (((encP y_1 131072).2) = true)) ∧ (((encP y_1 131072).2) = true → InR (((sizeN y_2 : Int) : Int) + 1)) ∧ (Tr (((encP y_1 131072).2) = true)) ∧ (Tr (((encP y_1 131072).2) = true)) ∧ ((Tr (((encP y_1 131072).2) = true))) ∧ (Tr ((bif ((encP y_1 131072).2) then (((((encP y_1 131072).1).length : Int) : Int) == (((sizeN y_2 : Int) : Int) + 1)) else false) = true)) ∧ ((Tr ((bif ((encP y_1 131072).2) then (((((encP y_1 131072).1).length : Int) : Int) == (((sizeN y_2 : Int) : Int) + 1)) else false) = true))) ∧ (Tr ((bif (bif ((encP y_1 131072).2) then (((((encP y_1 131072).1).length : Int) : Int) == (((sizeN y_2 : Int) : Int) + 1)) else false) then (((y_4.2.2) : Int) == 0) else false) = true)) ∧ (Tr ((bif (bif ((encP y_1 131072).2) then (((((encP y_1 131072).1).length : Int) : Int) == (((sizeN y_2 : Int) : Int) + 1)) else false) then (((y_4.2.2) : Int) == 0) else false) = true)) ∧ ((bif (bif ((encP y_1 131072).2) then (((((encP y_1 131072).1).length : Int) : Int) == (((sizeN y_2 : Int) : Int) + 1)) else false) then (((y_4.2.2) : Int) == 0) else false) = true → pre49 (y_6, y_2, ())) ∧ ((Tr ((bif (bif ((encP y_1 131072).2) then (((((encP y_1 131072).1).length : Int) : Int) == (((sizeN y_2 : Int) : Int) + 1)) else false) then (((y_4.2.2) : Int) == 0) else false) = true))) ∧ (Tr ((bif (bif (bif ((encP y_1 131072).2) then (((((encP y_1 131072).1).length : Int) : Int) == (((sizeN y_2 : Int) : Int) + 1)) else false) then (((y_4.2.2) : Int) == 0) else false) then (sameT y_6 y_2) else false) = true)) ∧ ((Tr ((bif (bif (bif ((encP y_1 131072).2) then (((((encP y_1 131072).1).length : Int) : Int) == (((sizeN y_2 : Int) : Int) + 1)) else false) then (((y_4.2.2) : Int) == 0) else false) then (sameT y_6 y_2) else false) = true))) ∧ (Tr ((bif (bif (bif (bif ((encP y_1 131072).2) then (((((encP y_1 131072).1).length : Int) : Int) == (((sizeN y_2 : Int) : Int) + 1)) else false) then (((y_4.2.2) : Int) == 0) else false) then (sameT y_6 y_2) else false) then ((((decC ((encP y_1 131072).1) (Limits.mk 64 65536 0 0)).2) : Int) == 0) else false) = true)) ∧ (Tr ((bif (bif (bif (bif ((encP y_1 131072).2) then (((((encP y_1 131072).1).length : Int) : Int) == (((sizeN y_2 : Int) : Int) + 1)) else false) then (((y_4.2.2) : Int) == 0) else false) then (sameT y_6 y_2) else false) then ((((decC ((encP y_1 131072).1) (Limits.mk 64 65536 0 0)).2) : Int) == 0) else false) = true)) ∧ ((bif (bif (bif (bif ((encP y_1 131072).2) then (((((encP y_1 131072).1).length : Int) : Int) == (((sizeN y_2 : Int) : Int) + 1)) else false) then (((y_4.2.2) : Int) == 0) else false) then (sameT y_6 y_2) else false) then ((((decC ((encP y_1 131072).1) (Limits.mk 64 65536 0 0)).2) : Int) == 0) else false) = true → pre49 (y_3, y_2, ())) ∧ ((Tr ((bif (bif (bif (bif ((encP y_1 131072).2) then (((((encP y_1 131072).1).length : Int) : Int) == (((sizeN y_2 : Int) : Int) + 1)) else false) then (((y_4.2.2) : Int) == 0) else false) then (sameT y_6 y_2) else false) then ((((decC ((encP y_1 131072).1) (Limits.mk 64 65536 0 0)).2) : Int) == 0) else false) = true))) ∧ ((bif (bif (bif (bif (bif ((encP y_1 131072).2) then (((((encP y_1 131072).1).length : Int) : Int) == (((sizeN y_2 : Int) : Int) + 1)) else false) then (((y_4.2.2) : Int) == 0) else false) then (sameT y_6 y_2) else false) then ((((decC ((encP y_1 131072).1) (Limits.mk 64 65536 0 0)).2) : Int) == 0) else false) then (sameT y_3 y_2) else false) = true → pre34 (())) ∧ ((Tr ((bif (bif (bif (bif (bif ((encP y_1 131072).2) then (((((encP y_1 131072).1).length : Int) : Int) == (((sizeN y_2 : Int) : Int) + 1)) else false) then (((y_4.2.2) : Int) == 0) else false) then (sameT y_6 y_2) else false) then ((((decC ((encP y_1 131072).1) (Limits.mk 64 65536 0 0)).2) : Int) == 0) else false) then (sameT y_3 y_2) else false) = true))) ∧ (Q .ret (⟨[(2, .c (.bool (bif (bif (bif (bif (bif (bif ((encP y_1 131072).2) then (((((encP y_1 131072).1).length : Int) : Int) == (((sizeN y_2 : Int) : Int) + 1)) else false) then (((y_4.2.2) : Int) == 0) else false) then (sameT y_6 y_2) else false) then ((((decC ((encP y_1 131072).1) (Limits.mk 64 65536 0 0)).2) : Int) == 0) else false) then (sameT y_3 y_2) else false) then true else false)))], [], []⟩ : LSt U))))))))))))))) :
    A17 [] (⟨[(0, .agg [.int .i64 (Tree.kind t), .slice (U := U) .u64 (Tree.words t) .unk, .slice (U := U) .tree (Tree.kids t) .unk])], [], []⟩ : LSt U) Q :=
  (Eq.mpr (by kernel_rfl) (h _ (reTree_eq _) _ (reTree_eq _) _ (reTree_eq _) _ rfl _ (reTree_eq _) _ (reTree_eq _)) :)
abbrev Body17 (t : Tree)  : Prop := awp cfg (know (know17)) (drawOk cfg (know (know17))) Try.f17.ntmps lv17 (cd Try.f17 []) (entry (args17.can (t, ())) []) (EndsQ cfg Try.f17.ntmps Try.f17.results.toList (res17 (t, ())) [])
theorem make17 (c33 : Contract Try.prog cfg 33 spec33) (c43 : Contract Try.prog cfg 43 spec43) (c50 : Contract Try.prog cfg 50 spec50) (c35 : Contract Try.prog cfg 35 spec35) (c54 : Contract Try.prog cfg 54 spec54) (c46 : Contract Try.prog cfg 46 spec46) (c55 : Contract Try.prog cfg 55 spec55) (c48 : Contract Try.prog cfg 48 spec48) (c20 : Contract Try.prog cfg 20 spec20) (c53 : Contract Try.prog cfg 53 spec53) (c49 : Contract Try.prog cfg 49 spec49) (c34 : Contract Try.prog cfg 34 spec34) (hb : ∀ (t : Tree) (_ : Unit), pre17 (t, ()) → Body17 t) : Contract Try.prog cfg 17 spec17 :=
  contract_flat (l := [(33, spec33), (43, spec43), (50, spec50), (35, spec35), (54, spec54), (46, spec46), (55, spec55), (48, spec48), (20, spec20), (53, spec53), (49, spec49), (34, spec34)]) cfgOk rfl (⟨c33, c43, c50, c35, c54, c46, c55, c48, c20, c53, c49, c34, trivial⟩) lv17 Try.func17 rfl rfl 1 (fun _ => rfl) (by decide) (fun ⟨t, _⟩ => hb t ())
end Go.AM.Ythokdjgpdonhgaa

namespace Go.AM.Ythokdjgpdonhgaa
open Go.AM Go.Proofs
theorem unf_any {l : List (List Int)} (hl : okSeg l) (x : Limits) : rightT (unfV l x).1 64 = true ∧ rng (unfV l x).1 ∧ mass (unfV l x).1 ≤ 140000 := by
  by_cases he : (unfV l x).2.2 = 0
  · have := unfV_good hl x he
    exact ⟨this.1, this.2.1, this.2.2.2.2.2⟩
  · rw [unf_nil he]
    exact ⟨rfl, ⟨by decide, (by intro x hx; cases hx), trivial⟩, by decide⟩
theorem c53 : Contract Try.prog cfg 53 spec53 := by
  refine make53 c20 c48 c35 c81 ?_
  intro l x _ hl
  simp only [pre53] at hl
  refine vc53 _ _ _ ?_
  intro y1 e1 y2 e2
  replace e1 := e1.symm
  subst e1
  have hA : segO (some (Arena.mk [l] 0 0 0)) = [l] := rfl
  rw [hA] at e2 ⊢
  obtain ⟨u1, u2, u3⟩ := unf_any hl x
  have hn := normT_mass (unfV [l] x).1
  have fin : ∀ {T : Tree} {e : Int}, decC l x = (T, e) → ∀ {s : LSt U}, EndsQ cfg Try.f53.ntmps Try.f53.results.toList (.tup [(true, enc .tree T), (false, [.int .i64 e])]) [] .ret s → EndsQ cfg Try.f53.ntmps Try.f53.results.toList (res53 (l, x, ())) [] .ret s := by
    intro T e h s hs
    refine ends_eq ?_ hs
    simp only [res53]
    rw [h]
    rfl
  have m2 : mass y2 ≤ 1000000 := by rw [e2]; show mass (normT (unfV [l] x).1) ≤ _; omega
  (simp only [vcT, vcS])
  refine ⟨hl, hl, fun h => fin (T := Tree.nil) (by unfold decC; rw [if_neg h]) (by (repeat' (first | exact trivial | exact rfl | apply And.intro))), fun h => ⟨⟨m2, by rw [e2]; exact rng_norm _ u2⟩, fun h2 => ?_, fun h2 => fin (T := Tree.nil) ?_ (by (repeat' (first | exact trivial | exact rfl | apply And.intro))), fun h2 => ?_⟩⟩
  · exact (hl.2 l (List.mem_singleton.2 rfl)).1
  · unfold decC
    rw [if_pos h, ← e2, if_neg]
    rintro ⟨h3, h4⟩
    rcases h2 with h2 | h2
    · rw [h3] at h2; cases h2
    · exact h2 h4
  · refine fin (T := normT (unfV [l] x).1) ?_ (by (repeat' (first | exact trivial | exact rfl | apply And.intro)))
    unfold decC
    rw [if_pos h, ← e2, if_pos h2]
theorem framT_kind (t : Tree) : (framT t).kind = t.kind ∧ (framT t).words = t.words ∧ (framT t).kids.length = t.kids.length := by
  obtain ⟨k, w, ks⟩ := t
  rw [framT]
  refine ⟨rfl, rfl, ?_⟩
  show (if k = 9 then framR (frW ks) (frK ks) ks else framK ks).length = ks.length
  split
  · rw [framR_eq, List.length_map]
  · exact framK_len ks
def framX (k : Int) (fw fk : Nat) (t : Tree) : Tree := if k = 9 then framS fw fk t else framT t
theorem framT_eq (t : Tree) : framT t = .mk t.kind t.words (t.kids.map (framX t.kind (frW t.kids) (frK t.kids))) := by
  obtain ⟨k, w, ks⟩ := t
  rw [framT]
  show Tree.mk k w _ = Tree.mk k w (ks.map (framX k (frW ks) (frK ks)))
  congr 1
  by_cases h9 : k = 9
  · rw [if_pos h9, framR_eq]
    congr 1
    funext t
    unfold framX
    rw [if_pos h9]
  · rw [if_neg h9]
    have : ∀ l : List Tree, framK l = l.map (framX k (frW ks) (frK ks)) := by
      intro l
      induction l with
      | nil => rw [framK]; rfl
      | cons t l ih => rw [framK, ih, List.map_cons]; congr 1; unfold framX; rw [if_neg h9]
    exact this ks
theorem framS_eq (fw fk : Nat) (t : Tree) : framS fw fk t = .mk (framT t).kind ((framT t).words ++ zs (fw - (framT t).words.length)) ((framT t).kids ++ List.replicate (fk - (framT t).kids.length) Tree.nil) := by
  obtain ⟨h1, h2, h3⟩ := framT_kind t
  rw [h1, h2, h3]
  obtain ⟨k, w, ks⟩ := t
  unfold framS
  rw [framT]
  rfl
theorem c55 : Contract Try.prog cfg 55 spec55 := by
  refine make55 c82 ?_
  intro N t _ hp hN
  simp only [pre55] at hp
  have hN : mass t < N + 1 := hN
  have hk := kids_le t
  have hfm := fr_mass t.kids
  have hmk : massK t.kids ≤ mass t := by obtain ⟨k, w, ks⟩ := t; rw [mass]; show massK ks ≤ _; omega
  refine vc55 N t _ ?_
  simp only [Tree.eta]
  refine ⟨hp, ?_⟩
  refine loop_rule (ι := Int) (fun p => head55_0 t p ((t.kids.take p.toNat).map (framX t.kind (frW t.kids) (frK t.kids)))) (fun p => 0 ≤ p ∧ p ≤ t.kids.length) (fun p => ((t.kids.length : Int) - p).toNat) 0 rfl ⟨by omega, by omega⟩ ?_
  rintro i ⟨g1, g2⟩
  refine vc55_l0 _ _ _ _ _ _ ?_
  rintro y1 rfl y2 e2 y3 rfl y4 rfl
  (simp only [vcT, vcS])
  refine ⟨fun hi => ?_, fun hi => ?_⟩
  · have hm := kid_mass (t := y1) (i := i.toNat) (by omega)
    have hmem := mem_getD (l := y1.kids) (i := i.toNat) (by omega) Tree.nil
    have hf := frW_le hmem
    rw [← e2] at hm hf
    obtain ⟨f1, f2, f3⟩ := framT_kind y3
    have q1 : mass y3 ≤ 1000000 := by omega
    have q2 : mass y3 < N := by omega
    have hll : ((y1.kids.take i.toNat).map (framX y1.kind (frW y1.kids) (frK y1.kids))).length ≤ y1.kids.length := by rw [List.length_map, List.length_take]; omega
    have htk : (y1.kids.take (i + 1).toNat).map (framX y1.kind (frW y1.kids) (frK y1.kids)) = (y1.kids.take i.toNat).map (framX y1.kind (frW y1.kids) (frK y1.kids)) ++ [framX y1.kind (frW y1.kids) (frK y1.kids) y3] := by
      rw [takeI g1 hi, List.map_append, ← e2]
      rfl
    refine ⟨⟨g1, hi⟩, q1, q2, fun h9 => ?_, fun h9 => ?_⟩
    · have ex : framX y1.kind (frW y1.kids) (frK y1.kids) y3 = Tree.mk (framT y3).kind (([] ++ (framT y3).words) ++ List.replicate (Int.toNat ((frW y1.kids : Int) - (framT y3).words.length)) 0) (([] ++ (framT y3).kids) ++ List.replicate (Int.toNat ((frK y1.kids : Int) - (framT y3).kids.length)) Tree.nil) := by
        unfold framX
        rw [if_pos h9, framS_eq, List.nil_append, List.nil_append, show ((frW y1.kids : Int) - (framT y3).words.length).toNat = frW y1.kids - (framT y3).words.length by omega, show ((frK y1.kids : Int) - (framT y3).kids.length).toNat = frK y1.kids - (framT y3).kids.length by omega]
        rfl
      have ew : ((framT y3).words.length : Int) = y3.words.length := by rw [f2]
      have ek : ((framT y3).kids.length : Int) = y3.kids.length := by rw [f3]
      refine ⟨?_, by ((unfold InR; omega)), ⟨by omega, ?_⟩, ?_, by ((unfold InR; omega)), ⟨by omega, ?_⟩, ?_, by ((unfold InR; omega)), i + 1, ?_, ⟨by omega, by omega⟩, by omega⟩
      · simp only [List.length_nil]; omega
      · simp only [List.nil_append]; omega
      · simp only [List.length_nil]; omega
      · simp only [List.nil_append]; omega
      · simp only [List.length_singleton]; omega
      · rw [htk, ex]
    · refine ⟨by simp only [List.length_singleton]; omega, by ((unfold InR; omega)), i + 1, ?_, ⟨by omega, by omega⟩, by omega⟩
      rw [htk]
      unfold framX
      rw [if_neg h9]
  · have e : i = y1.kids.length := by omega
    subst e
    rw [Int.toNat_natCast, List.take_length]
    refine ends_eq (r' := .agg (enc .tree (.mk y1.kind y1.words (y1.kids.map (framX y1.kind (frW y1.kids) (frK y1.kids)))))) ?_ (by (repeat' (first | exact trivial | exact rfl | apply And.intro)))
    simp only [res55]
    rw [framT_eq]
    rfl
end Go.AM.Ythokdjgpdonhgaa

namespace Go.AM.Ythokdjgpdonhgaa
open Go.AM Go.Proofs
theorem okW_app {a b : List Int} (h1 : okW a) (h2 : okW b) : okW (a ++ b) := fun x hx => (List.mem_append.1 hx).elim (h1 x) (h2 x)
theorem okW_zs (n : Nat) : okW (zs n) := fun x hx => by rw [(List.mem_replicate.1 hx).2]; decide
theorem okW_nil : okW [] := fun x hx => by cases hx
theorem okW_cons {x : Int} {l : List Int} (h : 0 ≤ x ∧ x < 18446744073709551616) (hl : okW l) : okW (x :: l) := fun y hy => by
  rcases List.mem_cons.1 hy with rfl | hy
  · exact h
  · exact hl y hy
theorem ptrP_rng {a to k up : Int} (hk : 0 ≤ k ∧ k < 4) (hu : 0 ≤ up ∧ up < 4294967296) : 0 ≤ ptrP a to k up ∧ ptrP a to k up < 18446744073709551616 := by
  unfold ptrP
  omega
theorem head_rng {t : Tree} {d : Int} (hr : rightT t d = true) (h10 : t.kind ≠ 10) (hs : sizeN t < 131072) (a to : Int) : 0 ≤ headP a to t ∧ headP a to t < 18446744073709551616 := by
  have rt := riT' hr
  have hk := rt.kind
  have hl := rt.len
  have sz := size_eq t
  rw [head_eq]
  split
  · omega
  · split
    · rename_i h1
      have := rt.stru h1
      exact ptrP_rng (by omega) (by omega)
    · split
      · exact ptrP_rng (by omega) (by omega)
      · split
        · rename_i h1 h8 h9
          rw [if_neg h1, if_neg h8, if_pos h9] at sz
          generalize t.kids.length * (frW t.kids + frK t.kids) = P at *
          exact ptrP_rng (by omega) (by omega)
        · exact ptrP_rng (by omega) (by omega)
theorem blk_okW : ∀ (N : Nat) (t : Tree), mass t ≤ N → ∀ (d to : Int), rightT t d = true → t.kind ≠ 10 → rng t → sizeN t < 131072 → okW (blkP t to) := by
  intro N
  induction N with
  | zero => intro t h; have := mass_pos t; omega
  | succ N ih =>
  intro t hN d to hr h10 hg hs
  have rt := riT' hr
  have hk := rt.kind
  have hl := rt.len
  have sz := size_eq t
  have hmk : massK t.kids + 1 ≤ mass t := by obtain ⟨k, w, ks⟩ := t; rw [mass]; show massK ks + 1 ≤ _; omega
  have kids : ∀ (l : List Tree), massK l ≤ N → KidsOk l → (∀ t ∈ l, rng t) → sizeK l < 131072 → ∀ a to, okW (kidsP l a to).1 ∧ okW (kidsP l a to).2 := by
    intro l
    induction l with
    | nil => intro _ _ _ _ a to; rw [kidsP]; exact ⟨okW_nil, okW_nil⟩
    | cons t l ih2 =>
      intro hm hK hR hz a to
      rw [massK] at hm
      rw [sizeK] at hz
      obtain ⟨k10, d', r'⟩ := hK t List.mem_cons_self
      obtain ⟨i1, i2⟩ := ih2 (by omega) (fun t ht => hK t (List.mem_cons_of_mem _ ht)) (fun t ht => hR t (List.mem_cons_of_mem _ ht)) (by omega) (a + 1) (to + (blkP t to).length)
      rw [kidsP]
      exact ⟨okW_cons (head_rng r' k10 (by omega) a to) i1, okW_app (ih t (by omega) d' to r' k10 (hR t List.mem_cons_self) (by omega)) i2⟩
  have hw : okW t.words := by obtain ⟨k, w, ks⟩ := t; rw [rng] at hg; exact hg.2.1
  have hkr : ∀ t' ∈ t.kids, rng t' := fun t' h => kid_rng hg h
  rw [blk_eq]
  split
  · exact okW_nil
  · split
    · rename_i h1
      rw [if_pos h1] at sz
      have := kids t.kids (by omega) (rt.kidsOk (.inl h1)) hkr (by omega)
      exact okW_app hw (okW_app (this _ _).1 (this _ _).2)
    · split
      · rename_i h1 h8
        rw [if_neg h1, if_pos h8] at sz
        have := kids t.kids (by omega) (rt.kidsOk (.inr h8)) hkr (by omega)
        exact okW_app (this _ _).1 (this _ _).2
      · split
        · rename_i h1 h8 h9
          rw [if_neg h1, if_neg h8, if_pos h9] at sz
          rw [h9] at rt
          have rows := rt.rows
          have hfr := fr_lt fun t ht => (rows t ht).2.2
          have all : ∀ (fw fk : Nat) (l : List Tree), massK l ≤ N → (∀ t ∈ l, KidsOk t.kids ∧ rng t) → sizeR l < 131072 → ∀ a to, okW (rowsP fw fk l a to).1 ∧ okW (rowsP fw fk l a to).2 := by
            intro fw fk l
            induction l with
            | nil => intro _ _ _ a to; rw [rowsP]; exact ⟨okW_nil, okW_nil⟩
            | cons t l ih2 =>
              intro hm hK hz a to
              obtain ⟨k', w', l'⟩ := t
              rw [massK, mass] at hm
              rw [sizeR] at hz
              obtain ⟨q1, q2⟩ := hK _ List.mem_cons_self
              obtain ⟨i1, i2⟩ := ih2 (by omega) (fun t ht => hK t (List.mem_cons_of_mem _ ht)) (by omega) (a + (fw + fk)) (to + (kidsP l' (a + fw) to).2.length)
              obtain ⟨j1, j2⟩ := kids l' (by omega) q1 (fun t ht => kid_rng q2 ht) (by omega) (a + fw) to
              have hw' : okW w' := by rw [rng] at q2; exact q2.2.1
              rw [rowsP]
              exact ⟨okW_app hw' (okW_app (okW_zs _) (okW_app j1 (okW_app (okW_zs _) i1))), okW_app j2 i2⟩
          have := all (frW t.kids) (frK t.kids) t.kids (by omega) (fun t ht => ⟨(rows t ht).2.1, hkr t ht⟩) (by omega)
          refine okW_cons ?_ (okW_app (this _ _).1 (this _ _).2)
          unfold tagP
          omega
        · rename_i h0 h1 h8 h9
          have hd := rt.data (by omega) (by omega)
          unfold putR
          rw [if_pos hd.1]
          refine putW_okW ?_ (by rw [numsP, List.length_map]; omega) hd.1
          intro x hx
          obtain ⟨t', ht', rfl⟩ := List.mem_map.1 hx
          have := hkr t' ht'
          obtain ⟨k', w', l'⟩ := t'
          rw [rng] at this
          exact getD_word this.2.1 0
theorem lay_seg {n : Tree} {d : Int} (hr : rightT n d = true) (h10 : n.kind ≠ 10) (hg : rng n) (hs : sizeN n < 131072) : okSeg [layP [0] 0 n] := by
  refine ⟨by show 1 ≤ _; decide, fun w hw => ?_⟩
  rw [List.mem_singleton.1 hw]
  refine ⟨by rw [(lay_self hr h10).1]; omega, ?_⟩
  have : okW (layP [0] 0 n) := by
    unfold layP
    split
    · exact okW_cons (by decide) okW_nil
    · exact okW_app (okW_cons (head_rng hr h10 hs _ _) okW_nil) (blk_okW _ _ (Nat.le_refl _) d _ hr h10 hg hs)
  exact this
theorem fram_mass : ∀ (N : Nat) (t : Tree), mass t ≤ N → ∀ d, rightT t d = true → mass (framT t) ≤ mass t + sizeN t := by
  intro N
  induction N with
  | zero => intro t h; have := mass_pos t; omega
  | succ N ih =>
  intro t hN d hr
  obtain ⟨k, w, ks⟩ := t
  have rt := riT hr
  have sz : sizeN (.mk k w ks) = if k = 1 then w.length + ks.length + sizeK ks else if k = 8 then ks.length + sizeK ks else if k = 9 then 1 + ks.length * (frW ks + frK ks) + sizeR ks
      else if 2 ≤ k ∧ k ≤ 7 then (roomW (k - 2) ks.length).toNat else sizeK ks := by rw [sizeN]
  rw [mass] at hN
  have kids : ∀ (l : List Tree), massK l ≤ N → (∀ t ∈ l, ∃ d, rightT t d = true) → massK (framK l) ≤ massK l + sizeK l := by
    intro l
    induction l with
    | nil => intro _ _; rw [framK]; omega
    | cons t l ih2 =>
      intro hm h
      rw [massK] at hm
      obtain ⟨d', h'⟩ := h t List.mem_cons_self
      have := ih t (by omega) d' h'
      have := ih2 (by omega) fun t ht => h t (List.mem_cons_of_mem _ ht)
      rw [framK, massK, massK, sizeK]
      omega
  have nils : ∀ n : Nat, massK (List.replicate n Tree.nil) = n := by
    intro n
    induction n with
    | zero => rfl
    | succ n ih => rw [List.replicate_succ, massK, ih]; show 1 + 0 + 0 + n = _; omega
  have mapp : ∀ a b : List Tree, massK (a ++ b) = massK a + massK b := by
    intro a b
    induction a with
    | nil => simp [massK]
    | cons t l ih => rw [List.cons_append, massK, massK, ih]; omega
  rw [framT, mass, mass]
  by_cases h9 : k = 9
  · subst h9
    rw [if_neg (by decide), if_neg (by decide), if_pos rfl] at sz
    rw [if_pos rfl, framR_eq]
    have rows := rt.rows
    have all : ∀ (fw fk : Nat) (l : List Tree), massK l ≤ N → (∀ t ∈ l, (t.kind = 1 ∧ t.words.length ≤ fw ∧ t.kids.length ≤ fk) ∧ KidsOk t.kids) → massK (l.map (framS fw fk)) ≤ massK l + l.length * (fw + fk) + sizeR l := by
      intro fw fk l
      induction l with
      | nil => intro _ _; simp [massK]
      | cons t l ih2 =>
        intro hm h
        obtain ⟨⟨k1, f1, f2⟩, q⟩ := h t List.mem_cons_self
        have i2 := ih2 (by rw [massK] at hm; omega) fun t ht => h t (List.mem_cons_of_mem _ ht)
        obtain ⟨k', w', l'⟩ := t
        have k1 : k' = 1 := k1
        subst k1
        have f1 : w'.length ≤ fw := f1
        have f2 : l'.length ≤ fk := f2
        rw [massK, mass] at hm
        have hkk := kids l' (by omega) fun t ht => (q t ht).2
        rw [List.map_cons, massK, massK, sizeR, List.length_cons, Nat.add_mul]
        have : mass (framS fw fk (.mk 1 w' l')) = 1 + fw + (massK (framK l') + (fk - l'.length)) := by
          unfold framS
          rw [if_neg (show ¬(Tree.mk 1 w' l').kind = 9 from (by show ¬(1 : Int) = 9; decide))]
          show mass (.mk 1 (w' ++ zs (fw - w'.length)) (framK l' ++ List.replicate (fk - l'.length) Tree.nil)) = _
          rw [mass, mapp, nils, List.length_append, zs_len]
          omega
        rw [this, mass]
        omega
    have := all (frW ks) (frK ks) ks (by omega) fun t ht => ⟨⟨(rows t ht).1, frW_le ht⟩, (rows t ht).2.1⟩
    omega
  · rw [if_neg h9]
    have hkk := kids ks (by omega) fun t ht => ⟨_, (rt.kids t ht).1⟩
    have : sizeK ks ≤ sizeN (.mk k w ks) := by
      rw [sz]
      split
      · omega
      · split
        · omega
        · split
          · rename_i h27
            have hat := (rt.data h27.1 h27.2).2
            have : ∀ l : List Tree, (∀ t ∈ l, t.kind = 10 ∧ t.kids.length = 0 ∧ t.words.length = 1) → sizeK l = 0 := by
              intro l
              induction l with
              | nil => intro _; rw [sizeK]
              | cons t l ih =>
                intro h
                have h1 := h t List.mem_cons_self
                rw [sizeK, ih fun t ht => h t (List.mem_cons_of_mem _ ht), size_eq, if_neg (by omega), if_neg (by omega), if_neg (by omega), if_neg (by omega), List.length_eq_zero_iff.1 h1.2.1]
                rfl
            rw [this ks hat]
            omega
          · omega
    omega
theorem lay_unf {n : Tree} (hr : rightT n 64 = true) (h10 : n.kind ≠ 10) (hg : rng n) (hs : sizeN n < 131072) (hw : weight (framT n) ≤ 65536) : unfV [layP [0] 0 n] (Limits.mk 64 65536 0 0) = (framT n, weight (framT n), 0) := by
  obtain ⟨h1, h2⟩ := lay_mean hr h10 hg hs hw
  have e : limV (Limits.mk 64 65536 0 0) = ⟨64, 65536, 0, 0⟩ := rfl
  have e2 : (Int.toNat 64) = 64 := rfl
  unfold unfV
  rw [e, h1]
  dsimp only
  rw [e2, h2, if_pos rfl, if_pos rfl]
  dsimp only
  congr 2
  omega
end Go.AM.Ythokdjgpdonhgaa

namespace Go.AM.Ythokdjgpdonhgaa
open Go.AM Go.Proofs
set_option maxHeartbeats 1000000 in
theorem c17 : Contract Try.prog cfg 17 spec17 := by
  refine make17 c33 c43 c50 c35 c54 c46 c55 c48 c20 c53 c49 c34 ?_
  intro t _ hp
  obtain ⟨hs, hg⟩ := hp
  dsimp only at hs hg
  refine vc17 _ _ ?_
  intro y1 e1 y2 e2 y3 e3 y4 e4 y5 e5 y6 e6
  replace e1 := e1.symm
  subst e1
  (simp only [vcT, vcS])
  have few : ∀ h : 0 ≤ shallow t 80 3000, mass t ≤ 3000 := fun h => by have := shallow_mass t 80 3000 h; omega
  refine ⟨hs, fun h => ⟨by have := few h; dsimp only; omega, hg, by dsimp only; omega, by dsimp only; omega⟩, fun _ => ⟨trivial, ends_bool rfl rfl⟩, fun h => ?_⟩
  obtain ⟨⟨h1, h2⟩, h10⟩ := h
  have hm := few h1
  have hn := normT_mass t
  rw [← e2] at hn
  have m2 : mass y2 ≤ 3000 := by omega
  have q1 : mass t ≤ 1000000000000 := by omega
  have q2 : mass t ≤ 1000000 := by omega
  have q3 : mass y2 ≤ 1000000 := by omega
  have r2 : rightT y2 64 = true := by rw [e2]; exact rightT_norm _ _ h2
  have g2 : rng y2 := by rw [e2]; exact rng_norm _ hg
  have k2 : y2.kind ≠ 10 := by rw [e2, normT_kind]; exact h10
  have n2 : normT y2 = y2 := by rw [e2]; exact normT_idem t
  have eno : 131072 ≤ sizeN y2 → (encP t 131072).2 = false := fun h => by
    cases hh : (encP t 131072).2 with
    | false => rfl
    | true =>
      have := (enc_yes hh).2.2.2.1
      rw [← e2] at this
      omega
  have eyes : sizeN y2 < 131072 → encP t 131072 = (layP [0] 0 y2, true) := fun h => by
    unfold encP
    rw [if_pos ⟨h2, h10⟩, ← e2, if_pos ⟨by omega, h⟩]
  refine ⟨q1, ⟨q2, hg⟩, q3, fun h => ⟨fun _ => trivial, ends_bool rfl ?_⟩, fun h => ?_⟩
  · rw [eno (by omega)]; rfl
  have hs2 : sizeN y2 < 131072 := by omega
  have ee := eyes hs2
  have hfm := fram_mass _ _ (Nat.le_refl _) _ r2
  rw [← e5] at hfm
  have q5 : mass y5 ≤ 1000000 := by omega
  have hseg := lay_seg r2 k2 g2 hs2
  have hself := lay_self r2 k2
  rw [ee] at e3 e4 ⊢
  dsimp only at e3 e4 ⊢
  have hA : segO (some (Arena.mk [layP [0] 0 y2] 0 0 0)) = [layP [0] 0 y2] := rfl
  rw [hA] at e4
  refine ⟨q3, q5, fun _ => ⟨fun _ => trivial, ends_bool rfl rfl⟩, fun hw => ?_⟩
  have hw' : weight (framT y2) ≤ 65536 := by rw [← e5]; omega
  have hu := lay_unf r2 k2 g2 hs2 hw'
  rw [hu] at e4
  have nf := norm_fram _ _ (Nat.le_refl _) _ r2
  rw [n2] at nf
  have e6' : y6 = y2 := by rw [e6, e4]; exact nf
  have ed : decC (layP [0] 0 y2) (Limits.mk 64 65536 0 0) = (y2, 0) := by
    have e2' : encP y2 131072 = (layP [0] 0 y2, true) := by
      unfold encP
      rw [n2, if_pos ⟨r2, k2⟩, if_pos ⟨by omega, hs2⟩]
    unfold decC
    rw [hu]
    dsimp only
    rw [if_pos rfl, nf, e2', if_pos ⟨rfl, rfl⟩]
  rw [ed] at e3 ⊢
  rw [e4, e6', e3]
  have st : sameT y2 y2 = true := by simp [sameT]
  dsimp only
  rw [st]
  have hl : (((layP [0] 0 y2).length : Int) == (sizeN y2 : Int) + 1) = true := by
    rw [hself.1]
    simp
  simp only [hl, cond_true]
  have q6 : mass y2 ≤ 1000000000000 := by omega
  exact ⟨hseg, hseg, hseg, fun _ => q3, fun _ => by ((unfold InR; omega)), fun _ => q6, fun _ => q6, fun _ => trivial, ends_bool rfl rfl⟩
end Go.AM.Ythokdjgpdonhgaa
