import Derived.Test.YtcljdbpmjdgooaaEG1
set_option linter.unusedSimpArgs false
set_option linter.unusedVariables false
namespace Go.AM.Ytcljdbpmjdgooaa
open Go.AM Go.Proofs
theorem OkAr.seg {a : Arena} (h : OkAr a) : okSeg a.segs := by
  refine ⟨by have := h.few; omega, fun l hl => ⟨?_, (h.segs l hl).2⟩⟩
  have := (h.segs l hl).1
  have := h.used
  omega
theorem segAt_eq {l : List (List Int)} {s : Int} (h0 : 0 ≤ s) : segAt l s = l.getD s.toNat [] := by
  unfold segAt
  rw [if_neg (by omega)]
theorem segAt_mem {l : List (List Int)} {s : Int} (h0 : 0 ≤ s) (h : s < l.length) : segAt l s ∈ l := by
  rw [segAt_eq h0, List.getD_eq_getElem?_getD, List.getElem?_eq_getElem (show s.toNat < l.length by omega)]
  exact List.getElem_mem _
theorem segAt_set {l : List (List Int)} {s t : Int} {x : List Int} (h0 : 0 ≤ s) (h : s < l.length) : segAt (l.set s.toNat x) t = if t = s then x else segAt l t := by
  by_cases ht : t < 0
  · rw [if_neg (by omega)]
    unfold segAt
    rw [if_pos ht, if_pos ht]
  · rw [segAt_eq (by omega), segAt_eq (by omega), List.getD_eq_getElem?_getD, List.getElem?_set]
    by_cases e : t = s
    · subst e
      rw [if_pos rfl, if_pos rfl, if_pos (by omega)]
      rfl
    · rw [if_neg (by omega), if_neg e, List.getD_eq_getElem?_getD]
theorem OkAr.len {a : Arena} (h : OkAr a) (s : Int) : ((segAt a.segs s).length : Int) ≤ a.used := by
  by_cases hs : 0 ≤ s ∧ s < a.segs.length
  · exact (h.segs _ (segAt_mem hs.1 hs.2)).1
  · have : segAt a.segs s = [] := by
      by_cases h0 : s < 0
      · unfold segAt; rw [if_pos h0]
      · rw [segAt_eq (by omega), List.getD_eq_getElem?_getD, List.getElem?_eq_none (by omega)]; rfl
    rw [this]
    exact h.used.1
theorem OkAr.grow {a : Arena} (h : OkAr a) {s n : Int} (h0 : 0 ≤ n) (hn : n ≤ a.most - a.used) : OkAr (growA a s n) := by
  have hu := h.used
  refine ⟨⟨?_, ?_, hu.2.2⟩, h.size, ?_, ?_⟩
  · show 0 ≤ a.used + n; omega
  · show a.used + n ≤ a.most; omega
  · show (a.segs.set _ _).length ≤ 16
    rw [List.length_set]
    exact h.few
  · intro l hl
    show (l.length : Int) ≤ a.used + n ∧ _
    rcases List.mem_or_eq_of_mem_set hl with hl | rfl
    · have := h.segs l hl
      exact ⟨by omega, this.2⟩
    · have := h.len s
      rw [List.length_append, List.length_replicate]
      refine ⟨by omega, fun x hx => ?_⟩
      rcases List.mem_append.1 hx with hx | hx
      · exact (okSeg_at h.seg s).2 x hx
      · have := (List.mem_replicate.1 hx).2
        omega
theorem OkAr.inn {a : Arena} (h : OkAr a) (s n : Int) : OkAr (inA a s n) := by
  unfold inA
  split
  · rename_i hh
    unfold inOk at hh
    rw [Bool.and_eq_true, decide_eq_true_eq] at hh
    exact h.grow hh.1.2.2.1 hh.1.2.2.2
  · exact h
theorem OkAr.opens {a : Arena} (h : OkAr a) (n : Int) : OkAr (openA a n) := by
  unfold openA
  split
  · rename_i hh
    refine ⟨h.used, h.size, ?_, ?_⟩
    · show (a.segs ++ [[]]).length ≤ 16
      rw [List.length_append, List.length_singleton]
      omega
    · intro l hl
      rcases List.mem_append.1 hl with hl | hl
      · exact h.segs l hl
      · rw [List.mem_singleton.1 hl]
        exact ⟨h.used.1, fun x hx => by cases hx⟩
  · exact h
theorem openA_used (a : Arena) (n : Int) : (openA a n).used = a.used ∧ (openA a n).most = a.most ∧ (openA a n).size = a.size := by
  unfold openA
  split <;> exact ⟨rfl, rfl, rfl⟩
theorem openA_len (a : Arena) (n : Int) : 0 < (openA a n).segs.length ∧ a.segs.length ≤ (openA a n).segs.length := by
  unfold openA
  split
  · show 0 < (a.segs ++ [[]]).length ∧ _ ≤ (a.segs ++ [[]]).length
    rw [List.length_append, List.length_singleton]
    omega
  · rename_i h
    omega
theorem OkAr.give {a : Arena} (h : OkAr a) (n : Int) : OkAr (giveA a n) := by
  unfold giveA
  split
  · rename_i hh
    unfold giveOk at hh
    rw [decide_eq_true_eq] at hh
    have := openA_used a n
    exact (h.opens n).grow hh.1 (by omega)
  · exact h
theorem OkAr.put {a : Arena} (h : OkAr a) (s i : Int) {w : Int} (hw : 0 ≤ w ∧ w < 18446744073709551616) : OkAr (putA a s i w) := by
  unfold putA
  split
  · rename_i hh
    rw [hasN_iff] at hh
    refine ⟨h.used, h.size, ?_, ?_⟩
    · show (a.segs.set _ _).length ≤ 16
      rw [List.length_set]
      exact h.few
    · intro l hl
      rcases List.mem_or_eq_of_mem_set hl with hl | rfl
      · exact h.segs l hl
      · rw [List.length_set]
        refine ⟨h.len s, fun x hx => ?_⟩
        rcases List.mem_or_eq_of_mem_set hx with hx | rfl
        · exact (okSeg_at h.seg s).2 x hx
        · exact hw
  · exact h
theorem OkAr.new (size most : Int) (h : size < 9223372036854775808) : OkAr (newA size most) := by
  refine ⟨⟨Int.le_refl _, ?_, ?_⟩, ⟨?_, ?_⟩, by simp [newA], fun l hl => by cases hl⟩
  all_goals (simp only [newA]; omega)
structure Gr (a b : Arena) : Prop where
  size : b.size = a.size
  most : b.most = a.most
  len : a.segs.length ≤ b.segs.length
  seg : ∀ s, (segAt a.segs s).length ≤ (segAt b.segs s).length
theorem Gr.refl (a : Arena) : Gr a a := ⟨rfl, rfl, Nat.le_refl _, fun _ => Nat.le_refl _⟩
theorem Gr.trans {a b c : Arena} (h : Gr a b) (k : Gr b c) : Gr a c := ⟨k.size.trans h.size, k.most.trans h.most, Nat.le_trans h.len k.len, fun s => Nat.le_trans (h.seg s) (k.seg s)⟩
theorem Gr.has {a b : Arena} (h : Gr a b) {s i n : Int} (hh : hasN a.segs s i n = true) : hasN b.segs s i n = true := by
  rw [hasN_iff] at hh ⊢
  have := h.len
  have := h.seg s
  omega
theorem gr_grow (a : Arena) {s n : Int} (h0 : 0 ≤ s) (h : s < a.segs.length) : Gr a (growA a s n) := by
  refine ⟨rfl, rfl, ?_, fun t => ?_⟩
  · show _ ≤ (a.segs.set _ _).length
    rw [List.length_set]; exact Nat.le_refl _
  · show _ ≤ (segAt (a.segs.set _ _) t).length
    rw [segAt_set h0 h]
    split
    · rename_i e
      subst e
      rw [List.length_append]
      omega
    · exact Nat.le_refl _
theorem gr_in (a : Arena) (s n : Int) : Gr a (inA a s n) := by
  unfold inA
  split
  · rename_i hh
    unfold inOk at hh
    rw [Bool.and_eq_true, decide_eq_true_eq] at hh
    exact gr_grow a hh.1.1 hh.1.2.1
  · exact .refl a
theorem gr_open (a : Arena) (n : Int) : Gr a (openA a n) := by
  have e := openA_used a n
  refine ⟨e.2.2, e.2.1, (openA_len a n).2, fun s => ?_⟩
  unfold openA
  split
  · show _ ≤ (segAt (a.segs ++ [[]]) s).length
    by_cases h0 : s < 0
    · unfold segAt
      rw [if_pos h0, if_pos h0]
      exact Nat.le_refl _
    · rw [segAt_eq (by omega), segAt_eq (by omega), List.getD_eq_getElem?_getD, List.getD_eq_getElem?_getD]
      by_cases hs : s.toNat < a.segs.length
      · rw [List.getElem?_append_left hs]
        exact Nat.le_refl _
      · rw [List.getElem?_eq_none (Nat.le_of_not_lt hs)]
        exact Nat.zero_le _
  · exact Nat.le_refl _
theorem gr_give (a : Arena) (n : Int) : Gr a (giveA a n) := by
  unfold giveA
  split
  · have := openA_len a n
    exact (gr_open a n).trans (gr_grow _ (by unfold giveS; omega) (by unfold giveS; omega))
  · exact .refl a
theorem gr_put (a : Arena) (s i w : Int) : Gr a (putA a s i w) := by
  unfold putA
  split
  · rename_i hh
    rw [hasN_iff] at hh
    refine ⟨rfl, rfl, ?_, fun t => ?_⟩
    · show _ ≤ (a.segs.set _ _).length
      rw [List.length_set]; exact Nat.le_refl _
    · show _ ≤ (segAt (a.segs.set _ _) t).length
      rw [segAt_set hh.1 hh.2.1]
      split
      · rename_i e
        subst e
        rw [List.length_set]
        exact Nat.le_refl _
      · exact Nat.le_refl _
  · exact .refl a
theorem giveS_range (a : Arena) (n : Int) : 0 ≤ giveS a n ∧ giveS a n < ((openA a n).segs.length : Int) := by
  have := openA_len a n
  unfold giveS
  omega
theorem give_has {a : Arena} {n : Int} (h : giveOk a n = true) : hasN (giveA a n).segs (giveS a n) (giveT a n) n = true := by
  have hs := giveS_range a n
  have hn : 0 ≤ n ∧ n ≤ a.most - a.used := of_decide_eq_true h
  unfold giveA
  rw [if_pos h, hasN_iff]
  have e : segAt (growA (openA a n) (giveS a n) n).segs (giveS a n) = segAt (openA a n).segs (giveS a n) ++ List.replicate n.toNat 0 := by
    show segAt ((openA a n).segs.set _ _) _ = _
    rw [segAt_set hs.1 hs.2, if_pos rfl]
  refine ⟨hs.1, ?_, by unfold giveT; omega, hn.1, ?_⟩
  · show _ < (((openA a n).segs.set _ _).length : Int)
    rw [List.length_set]
    exact hs.2
  · rw [e, List.length_append, List.length_replicate]
    unfold giveT
    omega
theorem in_has {a : Arena} {s n : Int} (h : inOk a s n = true) : hasN (inA a s n).segs s ((segAt a.segs s).length : Int) n = true := by
  have hh := h
  unfold inOk at hh
  rw [Bool.and_eq_true, decide_eq_true_eq] at hh
  unfold inA
  rw [if_pos h, hasN_iff]
  have e : segAt (growA a s n).segs s = segAt a.segs s ++ List.replicate n.toNat 0 := by
    show segAt (a.segs.set _ _) _ = _
    rw [segAt_set hh.1.1 hh.1.2.1, if_pos rfl]
  refine ⟨hh.1.1, ?_, by omega, hh.1.2.2.1, ?_⟩
  · show _ < ((a.segs.set _ _).length : Int)
    rw [List.length_set]
    exact hh.1.2.1
  · rw [e, List.length_append, List.length_replicate]
    omega
end Go.AM.Ytcljdbpmjdgooaa

namespace Go.AM.Ytcljdbpmjdgooaa
open Go.AM Go.Proofs
theorem c71 : Contract Try.prog cfg 71 spec71 := by
  refine make71 ?_
  intro a _ hp
  obtain ⟨y, hy0, hy⟩ := hp
  dsimp only at hy0
  subst hy0
  have h1 := hy.used
  refine vc71 (some y) _ ⟨fun h => (by cases h), fun _ => ⟨rfl, rfl, rfl, rfl, ?_, ?_⟩⟩
  · show InR (y.most - y.used)
    ((unfold InR; omega))
  · (repeat' (first | exact trivial | exact rfl | apply And.intro))
theorem c72 : Contract Try.prog cfg 72 spec72 := by
  refine make72 c97 ?_
  intro a s n _ hp
  obtain ⟨y, hy0, hy⟩ := hp
  dsimp only at hy0
  subst hy0
  have h1 := hy.size
  have h2 := hy.len s
  have h3 := hy.used
  refine vc72 (some y) s n _ ⟨rfl, rfl, hy.seg, ?_, ?_⟩
  · show InR (y.size - ((segAt y.segs s).length : Int))
    ((unfold InR; omega))
  · (repeat' (first | exact trivial | exact rfl | apply And.intro))
theorem c73 : Contract Try.prog cfg 73 spec73 := by
  refine make73 ?_
  intro a s n _ hp
  obtain ⟨h, ⟨h1, h2⟩, h3, h4⟩ := hp
  dsimp only at h h1 h2 h3 h4
  have hu := h.used
  have hl := h.len s
  rw [segAt_eq h1] at hl
  refine vc73 a s n _ ⟨⟨h1, h2⟩, ⟨h1, h2⟩, ⟨h3, by omega⟩, ⟨h1, h2⟩, rfl, by ((unfold InR; omega)), ?_⟩
  have e : growA a s n = Arena.mk (List.set (Arena.segs a) (Int.toNat s) ((List.getD (Arena.segs a) (Int.toNat s) []) ++ (List.replicate (Int.toNat n) 0))) (Arena.size a) (Arena.most a) (((Arena.used a) : Int) + n) := by
    unfold growA
    rw [segAt_eq h1]
  rw [← e, ← segAt_eq h1]
  (repeat' (first | exact trivial | exact rfl | apply And.intro))
theorem c77 : Contract Try.prog cfg 77 spec77 := by
  refine make77 c102 c71 c72 c73 ?_
  intro a s n _ h
  have h : OkAr a := h
  have hs : okB (some a) := h.seg
  have hy : ∃ y, some a = some y ∧ OkAr y := ⟨a, rfl, h⟩
  refine vc77 a s n _ ⟨fun _ => hs, fun _ => hy, fun _ => hy, ?_, ?_⟩
  · intro hb
    have hk : inOk a s n = false := by
      cases hk : inOk a s n with
      | false => rfl
      | true =>
        unfold inOk at hk
        rw [Bool.and_eq_true, decide_eq_true_eq] at hk
        obtain ⟨⟨k1, k2, k3, k4⟩, k5⟩ := hk
        rw [show (decide ((s : Int) < 0)) = false from decide_eq_false (by omega), show (decide ((((segO (some a)).length : Int) : Int) ≤ s)) = false from decide_eq_false (by show ¬ (a.segs.length : Int) ≤ s; omega),
          show (decide ((n : Int) < 0)) = false from decide_eq_false (by omega), show (decide ((((arO (some a)).most - (arO (some a)).used) : Int) < n)) = false from decide_eq_false (by show ¬ a.most - a.used < n; omega), show roomA (arO (some a)) s n = true from k5] at hb
        cases hb
    simp only [resL77, res77, inA, hk, Bool.false_eq_true, if_false]
    (repeat' (first | exact trivial | exact rfl | apply And.intro))
  · intro hb
    cases c1 : decide ((s : Int) < 0) <;> cases c2 : decide ((((segO (some a)).length : Int) : Int) ≤ s) <;> cases c3 : decide ((n : Int) < 0) <;> cases c4 : decide ((((arO (some a)).most - (arO (some a)).used) : Int) < n) <;> cases c5 : roomA (arO (some a)) s n <;> rw [c1] at hb <;> rw [c2] at hb <;> rw [c3] at hb <;> rw [c4] at hb <;> rw [c5] at hb <;> try (cases hb; done)
    rw [decide_eq_false_iff_not] at c1 c2 c3 c4
    have c2 : ¬ (a.segs.length : Int) ≤ s := c2
    have c4 : ¬ a.most - a.used < n := c4
    have hk : inOk a s n = true := by
      unfold inOk
      rw [Bool.and_eq_true, decide_eq_true_eq]
      exact ⟨⟨by omega, by omega, by omega, by omega⟩, c5⟩
    refine ⟨⟨h, ⟨by dsimp only; omega, by dsimp only; omega⟩, by dsimp only; omega, by dsimp only; omega⟩, ?_⟩
    simp only [resL77, res77, inA, hk, if_true]
    (repeat' (first | exact trivial | exact rfl | apply And.intro))
theorem c40 : Contract Try.prog cfg 40 spec40 := by
  refine make40 c71 c72 c73 ?_
  intro a n _ h
  have h : OkAr a := h
  have hy : ∃ y, some a = some y ∧ OkAr y := ⟨a, rfl, h⟩
  have hf := h.few
  refine vc40 a n _ ?_
  intro y1 hy1 y2 hy2
  have hy1 : y1 = roomA a ((a.segs.length : Int) - 1) n := hy1
  refine ⟨fun _ => hy, ?_, ?_⟩
  · intro hb
    have hk : giveOk a n = false := by
      cases hk : giveOk a n with
      | false => rfl
      | true =>
        have hk : 0 ≤ n ∧ n ≤ a.most - a.used := of_decide_eq_true hk
        rw [show (decide ((n : Int) < 0)) = false from decide_eq_false (by omega), show (decide ((((arO (some a)).most - (arO (some a)).used) : Int) < n)) = false from decide_eq_false (by show ¬ a.most - a.used < n; omega)] at hb
        cases hb
    simp only [resL40, res40, giveA, hk, Bool.false_eq_true, if_false]
    (repeat' (first | exact trivial | exact rfl | apply And.intro))
  · intro hb
    cases c1 : decide ((n : Int) < 0) <;> cases c2 : decide ((((arO (some a)).most - (arO (some a)).used) : Int) < n) <;> rw [c1] at hb <;> rw [c2] at hb <;> try (cases hb; done)
    rw [decide_eq_false_iff_not] at c1 c2
    have c2 : ¬ a.most - a.used < n := c2
    have hk : giveOk a n = true := decide_eq_true ⟨by omega, by omega⟩
    refine ⟨by ((unfold InR; omega)), fun _ => hy, ?_, ?_⟩
    · intro hd
      have ho : openA a n = y2 := by
        unfold openA
        rw [hy2, if_pos]
        · rfl
        · cases c3 : decide ((((((Arena.segs a).length : Int) : Int) - 1) : Int) < 0) with
          | true => rw [decide_eq_true_eq] at c3; left; omega
          | false =>
            rw [c3] at hd
            cases c4 : y1 with
            | true => rw [c4] at hd; cases hd
            | false =>
              rw [c4] at hd
              have : (a.segs.length : Int) < 16 := of_decide_eq_true hd
              right
              exact ⟨by rw [← hy1, c4], by omega⟩
      have hl : y2.segs.length = a.segs.length + 1 := by rw [hy2]; simp
      have hS : giveS a n = ((((((Arena.segs a).length : Int) : Int) - 1) : Int) + 1) := by
        unfold giveS
        rw [ho, hl]
        omega
      have hT : giveT a n = ((segAt y2.segs ((((((Arena.segs a).length : Int) : Int) - 1) : Int) + 1)).length : Int) := by
        unfold giveT
        rw [ho, hS]
      have hA : giveA a n = growA y2 ((((((Arena.segs a).length : Int) : Int) - 1) : Int) + 1) n := by
        unfold giveA
        rw [if_pos hk, ho, hS]
      have hu := openA_used a n
      rw [ho] at hu
      refine ⟨by omega, by ((unfold InR; omega)), ⟨by rw [← ho]; exact h.opens n, ⟨by dsimp only; omega, by dsimp only; omega⟩, by dsimp only; omega, by dsimp only; omega⟩, ?_⟩
      simp only [resL40, res40, hk, if_true]
      rw [← hA, ← hS]
      rw [show ((segAt y2.segs (giveS a n)).length : Int) = giveT a n by unfold giveT; rw [ho]]
      (repeat' (first | exact trivial | exact rfl | apply And.intro))
    · intro hd
      have hne : ¬ ((((a.segs.length : Int)) - 1) : Int) < 0 := by
        intro hc
        rw [show decide ((((((Arena.segs a).length : Int) : Int) - 1) : Int) < 0) = true from decide_eq_true hc] at hd
        cases hd
      have ho : openA a n = a := by
        unfold openA
        rw [if_neg]
        rintro (hc | ⟨hc, hc2⟩)
        · omega
        · rw [show decide ((((((Arena.segs a).length : Int) : Int) - 1) : Int) < 0) = false from decide_eq_false hne, hy1, hc, show (decide ((((Arena.segs a).length : Int) : Int) < 16)) = true from decide_eq_true (by omega)] at hd
          cases hd
      have hS : giveS a n = ((((Arena.segs a).length : Int) : Int) - 1) := by
        unfold giveS
        rw [ho]
      have hA : giveA a n = growA a ((((Arena.segs a).length : Int) : Int) - 1) n := by
        unfold giveA
        rw [if_pos hk, ho, hS]
      refine ⟨⟨h, ⟨by dsimp only; omega, by dsimp only; omega⟩, by dsimp only; omega, by dsimp only; omega⟩, ?_⟩
      simp only [resL40, res40, hk, if_true]
      rw [← hA, ← hS]
      rw [show ((segAt a.segs (giveS a n)).length : Int) = giveT a n by unfold giveT; rw [ho]]
      (repeat' (first | exact trivial | exact rfl | apply And.intro))
theorem c79 : Contract Try.prog cfg 79 spec79 := by
  refine make79 c103 ?_
  intro a s i w _ hp
  obtain ⟨h, hw⟩ := hp
  dsimp only at h hw
  refine vc79 a s i w _ ⟨h.seg, fun hb => ?_, fun hb => ?_⟩
  · have hb : (!hasN a.segs s i 1) = true := hb
    have hb : hasN a.segs s i 1 = false := by simpa using hb
    simp only [resL79, res79, putA, hb, Bool.false_eq_true, if_false]
    (repeat' (first | exact trivial | exact rfl | apply And.intro))
  · have hb : (!hasN a.segs s i 1) = false := hb
    have hb : hasN a.segs s i 1 = true := by simpa using hb
    have hh := hasN_iff.1 hb
    rw [segAt_eq hh.1] at hh
    refine ⟨⟨hh.1, hh.2.1⟩, ⟨hh.2.2.1, by omega⟩, ?_⟩
    simp only [resL79, res79, putA, hb, if_true]
    rw [segAt_eq hh.1]
    (repeat' (first | exact trivial | exact rfl | apply And.intro))
end Go.AM.Ytcljdbpmjdgooaa

namespace Go.AM.Ytcljdbpmjdgooaa
open Go.AM Go.Proofs
theorem trim_cons (x : Int) (r : List Int) : trim (x :: r) = if trim r = [] ∧ x = 0 then [] else x :: trim r := by
  simp only [trim]
  split
  · rename_i h
    simp only [h]
    split <;> simp_all
  · rename_i h
    simp [h]
theorem trimK_cons (x : Tree) (r : List Tree) : trimK (x :: r) = if trimK r = [] ∧ x.kind = 0 then [] else x :: trimK r := by
  simp only [trimK]
  split
  · rename_i h
    simp only [h]
    split <;> simp_all
  · rename_i h
    simp [h]
theorem normT_kind (t : Tree) : (normT t).kind = t.kind := by
  obtain ⟨k, w, ks⟩ := t
  simp only [normT]
  split
  · rename_i h; simp [h, Tree.nil]
  · split
    · rename_i h; simp [h]
    · rfl
end Go.AM.Ytcljdbpmjdgooaa

namespace Go.AM.Ytcljdbpmjdgooaa
open Go.AM Go.Proofs
theorem trim_pre : ∀ (l : List Int), ∃ r, l = trim l ++ r
  | [] => ⟨[], rfl⟩
  | x :: r => by
    obtain ⟨s, hs⟩ := trim_pre r
    simp only [trim]
    split
    · rename_i e
      split
      · exact ⟨x :: r, rfl⟩
      · exact ⟨r, rfl⟩
    · rename_i y t e
      rw [e] at hs
      exact ⟨s, by rw [hs]; rfl⟩
theorem trimK_pre : ∀ (l : List Tree), ∃ r, l = trimK l ++ r
  | [] => ⟨[], rfl⟩
  | x :: r => by
    obtain ⟨s, hs⟩ := trimK_pre r
    simp only [trimK]
    split
    · rename_i e
      split
      · exact ⟨x :: r, rfl⟩
      · exact ⟨r, rfl⟩
    · rename_i y t e
      rw [e] at hs
      exact ⟨s, by rw [hs]; rfl⟩
theorem rightK_pre {list d : Int} : ∀ (a b : List Tree), rightK list (a ++ b) d = true → rightK list a d = true
  | [], _, _ => rfl
  | t :: r, b, h => by
    simp only [List.cons_append, rightK, Bool.and_eq_true] at h ⊢
    exact ⟨h.1, rightK_pre r b h.2⟩
theorem kidB_norm {list : Int} {t : Tree} (h : kidB list t = true) : kidB list (normT t) = true := by
  unfold kidB at h ⊢
  rw [normT_kind]
  split at h
  · rename_i hl
    rw [if_pos hl]
    simp only [Bool.and_eq_true, decide_eq_true_eq] at h ⊢
    obtain ⟨⟨h1, h2, h3⟩, h4⟩ := h
    obtain ⟨k, w, ks⟩ := t
    simp only [Tree.kind_mk, Tree.kids_mk, Tree.words_mk] at h1 h2 h3 h4
    have : ks = [] := List.length_eq_zero_iff.1 h2
    subst this
    subst h1
    exact ⟨⟨rfl, rfl, h3⟩, h4⟩
  · rename_i hl
    rw [if_neg hl]
    exact h
mutual
theorem rightT_norm : ∀ (t : Tree) (d : Int), rightT t d = true → rightT (normT t) d = true
  | .mk k w ks, d, h => by
    have ih := fun (list : Int) (h : rightK list ks (d - 1) = true) => rightK_norm ks list (d - 1) h
    simp only [rightT] at h
    simp only [normT]
    by_cases h0 : k = 0
    · rw [if_pos h0]; simp [Tree.nil, rightT]
    · rw [if_neg h0] at h ⊢
      by_cases h10 : k = 10
      · subst h10
        rw [if_pos rfl] at h
        rw [if_neg (by decide)]
        simp only [decide_eq_true_eq] at h
        simp only [rightT]
        rw [if_neg (by decide), if_pos trivial, normK_len]
        simpa using h
      · rw [if_neg h10] at h
        by_cases hd : d = 0
        · rw [if_pos hd] at h; cases h
        · rw [if_neg hd] at h
          by_cases h1 : k = 1
          · subst h1
            rw [if_pos rfl] at h
            rw [if_pos rfl]
            simp only [Bool.and_eq_true, decide_eq_true_eq] at h
            simp only [rightT]
            rw [if_neg (by decide), if_neg (by decide), if_neg hd, if_pos trivial]
            simp only [Bool.and_eq_true, decide_eq_true_eq]
            obtain ⟨r1, e1⟩ := trim_pre w
            obtain ⟨r2, e2⟩ := trimK_pre (normK ks)
            have l1 := congrArg List.length e1
            have l2 := congrArg List.length e2
            rw [normK_len] at l2
            simp only [List.length_append] at l1 l2
            refine ⟨⟨by omega, by omega⟩, ?_⟩
            have := ih 1 h.2
            rw [e2] at this
            exact rightK_pre _ _ this
          · rw [if_neg h1] at h ⊢
            simp only [Bool.and_eq_true, decide_eq_true_eq] at h
            simp only [rightT]
            rw [if_neg h0, if_neg h10, if_neg hd, if_neg h1, normK_len]
            simp only [Bool.and_eq_true, decide_eq_true_eq]
            exact ⟨h.1, ih k h.2⟩
theorem rightK_norm : ∀ (l : List Tree) (list d : Int), rightK list l d = true → rightK list (normK l) d = true
  | [], _, _, _ => rfl
  | t :: r, list, d, h => by
    simp only [rightK, Bool.and_eq_true] at h
    have h1 := rightT_norm t d h.1.2
    have h2 := rightK_norm r list d h.2
    simp only [normK, rightK, Bool.and_eq_true]
    exact ⟨⟨kidB_norm h.1.1, h1⟩, h2⟩
end
theorem trim_idem (l : List Int) : trim (trim l) = trim l := by
  induction l with
  | nil => rfl
  | cons x r ih =>
    rw [trim_cons]
    split
    · rfl
    · rename_i h
      rw [trim_cons, ih, if_neg h]
theorem trimK_idem (l : List Tree) : trimK (trimK l) = trimK l := by
  induction l with
  | nil => rfl
  | cons x r ih =>
    rw [trimK_cons]
    split
    · rfl
    · rename_i h
      rw [trimK_cons, ih, if_neg h]
def Normed : List Tree → Prop
  | [] => True
  | t :: r => normT t = t ∧ Normed r
theorem Normed.eq : ∀ {l : List Tree}, Normed l → normK l = l
  | [], _ => rfl
  | t :: r, h => by simp only [normK, h.1, Normed.eq h.2]
theorem Normed.trim : ∀ {l : List Tree}, Normed l → Normed (trimK l)
  | [], _ => trivial
  | t :: r, h => by
    rw [trimK_cons]
    split
    · trivial
    · exact ⟨h.1, Normed.trim h.2⟩
mutual
theorem normT_idem : ∀ (t : Tree), normT (normT t) = normT t
  | .mk k w ks => by
    have h := normK_normed ks
    by_cases h0 : k = 0
    · simp [normT, h0, Tree.nil]
    · by_cases h1 : k = 1
      · subst h1
        simp only [normT, if_neg h0, if_true, trim_idem, h.trim.eq, trimK_idem]
      · simp only [normT, if_neg h0, if_neg h1, h.eq]
theorem normK_normed : ∀ (ks : List Tree), Normed (normK ks)
  | [] => trivial
  | t :: r => ⟨normT_idem t, normK_normed r⟩
end
theorem rngK_app : ∀ {a b : List Tree}, rngK (a ++ b) ↔ rngK a ∧ rngK b
  | [], b => by simp [rngK]
  | t :: r, b => by simp only [List.cons_append, rngK]; rw [rngK_app (a := r), and_assoc]
mutual
theorem rng_norm : ∀ (t : Tree), rng t → rng (normT t)
  | .mk k w ks, h => by
    simp only [rng] at h
    obtain ⟨h1, h2, h3⟩ := h
    have h4 := rngK_norm ks h3
    simp only [normT]
    split
    · simp only [Tree.nil, rng, rngK]
      exact ⟨by decide, by simp, trivial⟩
    · split
      · obtain ⟨r1, e1⟩ := trim_pre w
        obtain ⟨r2, e2⟩ := trimK_pre (normK ks)
        simp only [rng]
        refine ⟨by decide, fun x hx => h2 x (by rw [e1]; exact List.mem_append.2 (Or.inl hx)), ?_⟩
        rw [e2] at h4
        exact (rngK_app.1 h4).1
      · simp only [rng]
        exact ⟨h1, h2, h4⟩
theorem rngK_norm : ∀ (l : List Tree), rngK l → rngK (normK l)
  | [], _ => trivial
  | t :: r, h => by
    simp only [rngK] at h
    have h1 := rng_norm t h.1
    have h2 := rngK_norm r h.2
    simp only [normK, rngK]
    exact ⟨h1, h2⟩
end
theorem mass_pos (t : Tree) : 1 ≤ mass t := by cases t; rw [mass]; omega
theorem fr_mass : ∀ (ks : List Tree), frW ks + frK ks + ks.length ≤ massK ks
  | [] => by simp [frW, frK, massK]
  | .mk k w l :: r => by
    have := fr_mass r
    have h : l.length ≤ massK l := by
      clear this
      induction l with
      | nil => simp
      | cons t l ih => rw [massK, List.length_cons]; have := mass_pos t; omega
    rw [frW, frK, massK, mass, List.length_cons]
    show max w.length _ + max l.length _ + _ ≤ _
    omega
theorem room_le (c : Int) (n : Nat) : (roomW c n).toNat ≤ n := by
  unfold roomW
  split
  · simp
  · rcases wd_div c with e | e | e | e | e | e
    · omega
    all_goals (rw [e]; omega)
theorem sq_le {a b c : Nat} (h : a + b ≤ c) : a * a + b * b ≤ c * c := by
  have h1 : a * a + b * b ≤ (a + b) * (a + b) := by
    rw [Nat.add_mul, Nat.mul_add, Nat.mul_add]
    omega
  exact Nat.le_trans h1 (Nat.mul_le_mul h h)
mutual
theorem size_mass : ∀ (t : Tree), sizeN t ≤ mass t * mass t
  | .mk k w ks => by
    have hk := sizeK_mass ks
    have hr := sizeR_mass ks
    have hf := fr_mass ks
    have e : ∀ W M : Nat, (W + M) * (W + M) = W * W + 2 * (W * M) + M * M := by
      intro W M
      rw [Nat.add_mul, Nat.mul_add, Nat.mul_add, Nat.mul_comm M W]
      omega
    have e1 : 1 + w.length ≤ (1 + w.length) * (1 + w.length) := Nat.le_mul_of_pos_left _ (by omega)
    have e2 : massK ks ≤ (1 + w.length) * massK ks := Nat.le_mul_of_pos_left _ (by omega)
    rw [sizeN, mass, e]
    split
    · omega
    · split
      · omega
      · split
        · have h1 : ks.length * (frW ks + frK ks) ≤ ks.length * (massK ks - ks.length) := Nat.mul_le_mul_left _ (by omega)
          have h2 : ks.length * (massK ks - ks.length) + (massK ks - ks.length) * (massK ks - ks.length) ≤ massK ks * massK ks := by
            rw [← Nat.add_mul]
            exact Nat.mul_le_mul (by omega) (by omega)
          omega
        · split
          · have := room_le (k - 2) ks.length
            omega
          · omega
theorem sizeK_mass : ∀ (ks : List Tree), sizeK ks ≤ massK ks * massK ks
  | [] => by simp [sizeK]
  | t :: r => by
    rw [sizeK, massK]
    have h1 := size_mass t
    have h2 := sizeK_mass r
    have := sq_le (Nat.le_refl (mass t + massK r))
    omega
theorem sizeR_mass : ∀ (ks : List Tree), sizeR ks ≤ (massK ks - ks.length) * (massK ks - ks.length)
  | [] => by simp [sizeR]
  | .mk k w l :: r => by
    rw [sizeR, massK, mass, List.length_cons]
    have h1 := sizeK_mass l
    have h2 := sizeR_mass r
    have hf := fr_mass r
    have := sq_le (a := massK l) (b := massK r - r.length) (c := 1 + w.length + massK l + massK r - (r.length + 1)) (by omega)
    omega
end
end Go.AM.Ytcljdbpmjdgooaa

namespace Go.AM.Ytcljdbpmjdgooaa
open Go.AM Go.Proofs
abbrev TrEVR07G (p : Prop) : Prop := p → p
noncomputable section
def args89 : ArgL (Int × Int × Unit) := (.cons (aInt .i64) (.cons (aInt .u64) .nil))
def pre89 (a : Int × Int × Unit) : Prop := 0 ≤ a.2.1 ∧ a.2.1 < 18446744073709551616
noncomputable def res89 (a : Int × Int × Unit) : V U := .c (.bool (fits a.1 a.2.1))
noncomputable def spec89 : Fs U := fs args89 (fun a => [pre89 a]) res89
def args69 : ArgL (Int × Unit) := (.cons (aInt .i64) .nil)
def pre69 (a : Int × Unit) : Prop := True
noncomputable def res69 (a : Int × Unit) : V U := .c (.bool (decide (2 ≤ a.1 ∧ a.1 ≤ 9)))
noncomputable def spec69 : Fs U := fs args69 (fun a => [pre69 a]) res69
def args70 : ArgL (Int × Tree × Unit) := (.cons (aInt .i64) (.cons (aEl .tree) .nil))
def pre70 (a : Int × Tree × Unit) : Prop := rng a.2.1
noncomputable def res70 (a : Int × Tree × Unit) : V U := .c (.bool (kidB a.1 a.2.1))
noncomputable def spec70 : Fs U := fs args70 (fun a => [pre70 a]) res70
def args39 : ArgL (Tree × Int × Unit) := (.cons (aEl .tree) (.cons (aInt .i64) .nil))
def pre39 (a : Tree × Int × Unit) : Prop := mass a.1 ≤ 1000000 ∧ rng a.1 ∧ 0 ≤ a.2.1 ∧ a.2.1 ≤ 1000
def mu39 (a : Tree × Int × Unit) : Nat := mass a.1
noncomputable def res39 (a : Tree × Int × Unit) : V U := .c (.bool (rightT a.1 a.2.1))
noncomputable def spec39 : Fs U := fs args39 (fun a => [pre39 a]) res39
def args20 : ArgL (Tree × Unit) := (.cons (aEl .tree) .nil)
def pre20 (a : Tree × Unit) : Prop := mass a.1 ≤ 1000000 ∧ rng a.1
noncomputable def res20 (a : Tree × Unit) : V U := .c (.bool (rightT a.1 64))
noncomputable def spec20 : Fs U := fs args20 (fun a => [pre20 a]) res20
noncomputable def know89 : List (FuncId × Fs U) := [(88, spec88)]
def lv89 : Lives U := fun i => match i with
  | 0 => ([(0, []), (1, [])], [])
  | 1 => ([(1, []), (5, []), (6, [])], [])
  | 2 => ([(4, [])], [])
  | _ => ([], [])
theorem vc89 (c : Int) (n : Int) (Q : AExit → LSt U → Prop) (h : (pre88 (c, ())) ∧ ((((decide (0 ≤ wd c)) && (!(((if wd c < 0 then 0 else wd c) : Int) == 64))) = true → (0 : Int) ≤ (if wd c < 0 then 0 else wd c)) ∧ (Q .ret (⟨[(4, .c (.bool (bif (decide (0 ≤ wd c)) then (bif (((if wd c < 0 then 0 else wd c) : Int) == 64) then true else (((Int.fdiv n (2 ^ (min (Int.toNat (if wd c < 0 then 0 else wd c)) (IntKind.bits .u64)))) : Int) == 0)) else false)))], [], []⟩ : LSt U)))) :
    awp cfg (know know89) (drawOk cfg (know know89)) Try.f89.ntmps lv89 (cd Try.f89 []) (⟨[(0, .c (.int .i64 c)), (1, .c (.int .u64 n))], [], []⟩ : LSt U) Q := by
  have e : (awp cfg (know know89) (drawOk cfg (know know89)) Try.f89.ntmps lv89 (cd Try.f89 []) (⟨[(0, .c (.int .i64 c)), (1, .c (.int .u64 n))], [], []⟩ : LSt U) Q) = (let zz0 := (((if wd c < 0 then 0 else wd c) : Int) == 64); ((pre88 (c, ())) ∧ ((TrEVR07G ((decide (0 ≤ wd c)) = true)) ∧ (TrEVR07G ((decide (0 ≤ wd c)) = true)) ∧ (TrEVR07G (((decide (0 ≤ wd c)) && (!zz0)) = true)) ∧ (TrEVR07G (((decide (0 ≤ wd c)) && (!zz0)) = true)) ∧ (((decide (0 ≤ wd c)) && (!zz0)) = true → (0 : Int) ≤ (if wd c < 0 then 0 else wd c)) ∧ (TrEVR07G (((decide (0 ≤ wd c)) && (!zz0)) = true)) ∧ ((decide (0 ≤ wd c)) = true → (True → (decide (0 ≤ wd c)) = true)) ∧ ((decide (0 ≤ wd c)) = true → (zz0 = false → ((decide (0 ≤ wd c)) && (!zz0)) = true)) ∧ ((TrEVR07G ((decide (0 ≤ wd c)) = true))) ∧ (Q .ret (⟨[(4, .c (.bool (bif (decide (0 ≤ wd c)) then (bif zz0 then true else (((Int.fdiv n (2 ^ (min (Int.toNat (if wd c < 0 then 0 else wd c)) (IntKind.bits .u64)))) : Int) == 0)) else false)))], [], []⟩ : LSt U))))) := by kernel_rfl
  exact e.mpr ⟨h.1, ⟨id, id, id, id, h.2.1, id, (by generalize (decide (0 ≤ wd c)) = b0; revert b0; decide), (by generalize (((if wd c < 0 then 0 else wd c) : Int) == 64) = b0; generalize (decide (0 ≤ wd c)) = b1; revert b0 b1; decide), (by generalize (decide (0 ≤ wd c)) = b0; revert b0; decide), h.2.2⟩⟩
def Body89 (c : Int) (n : Int)  : Prop := awp cfg (know (know89)) (drawOk cfg (know (know89))) Try.f89.ntmps lv89 (cd Try.f89 []) (entry (args89.can (c, n, ())) []) (EndsQ cfg Try.f89.ntmps Try.f89.results.toList (res89 (c, n, ())) [])
theorem make89 (c88 : Contract Try.prog cfg 88 spec88) (hb : ∀ (c : Int) (n : Int) (_ : Unit), pre89 (c, n, ()) → Body89 c n) : Contract Try.prog cfg 89 spec89 :=
  contract_flat (l := [(88, spec88)]) cfgOk rfl (⟨c88, trivial⟩) lv89 Try.func89 rfl rfl 2 (fun _ => rfl) (by decide) (fun ⟨c, n, _⟩ => hb c n ())
noncomputable def know69 : List (FuncId × Fs U) := []
def lv69 : Lives U := fun i => match i with
  | 0 => ([(0, [])], [])
  | 1 => ([(2, [])], [])
  | _ => ([], [])
theorem vc69 (k : Int) (Q : AExit → LSt U → Prop) (h : Q .ret (⟨[(2, .c (.bool (bif (decide ((2 : Int) ≤ k)) then (decide ((k : Int) ≤ 9)) else false)))], [], []⟩ : LSt U)) :
    awp cfg (know know69) (drawOk cfg (know know69)) Try.f69.ntmps lv69 (cd Try.f69 []) (⟨[(0, .c (.int .i64 k))], [], []⟩ : LSt U) Q := by
  have e : (awp cfg (know know69) (drawOk cfg (know know69)) Try.f69.ntmps lv69 (cd Try.f69 []) (⟨[(0, .c (.int .i64 k))], [], []⟩ : LSt U) Q) = (((TrEVR07G ((decide ((2 : Int) ≤ k)) = true)) ∧ ((TrEVR07G ((decide ((2 : Int) ≤ k)) = true))) ∧ (Q .ret (⟨[(2, .c (.bool (bif (decide ((2 : Int) ≤ k)) then (decide ((k : Int) ≤ 9)) else false)))], [], []⟩ : LSt U)))) := by kernel_rfl
  exact e.mpr ⟨id, (by generalize (decide ((2 : Int) ≤ k)) = b0; revert b0; decide), h⟩
def Body69 (k : Int)  : Prop := awp cfg (know (know69)) (drawOk cfg (know (know69))) Try.f69.ntmps lv69 (cd Try.f69 []) (entry (args69.can (k, ())) []) (EndsQ cfg Try.f69.ntmps Try.f69.results.toList (res69 (k, ())) [])
theorem make69 (hb : ∀ (k : Int) (_ : Unit), pre69 (k, ()) → Body69 k) : Contract Try.prog cfg 69 spec69 :=
  contract_flat (l := []) cfgOk rfl (trivial) lv69 Try.func69 rfl rfl 1 (fun _ => rfl) (by decide) (fun ⟨k, _⟩ => hb k ())
noncomputable def know70 : List (FuncId × Fs U) := [(86, spec86), (89, spec89)]
def lv70 : Lives U := fun i => match i with
  | 0 => ([(0, []), (3, [])], [((.loc 3), [])])
  | 1 => ([(0, []), (3, []), (5, [])], [((.loc 3), [])])
  | 2 => ([(4, [])], [])
  | 3 => ([(3, []), (32, [])], [((.loc 3), [])])
  | 4 => ([(4, [])], [])
  | 5 => ([(4, [])], [])
  | _ => ([], [])
theorem vc70 (l : Int) (t : Tree) (Q : AExit → LSt U → Prop) (h : (pre86 (l, ())) ∧ (((decide (2 ≤ l ∧ l ≤ 7)) = true → ((bif (bif (((Tree.kind t) : Int) == 10) then ((((Tree.kids t).length : Int) : Int) == 0) else false) then ((((Tree.words t).length : Int) : Int) == 1) else false) = true → InR ((l : Int) - 2)) ∧ ((bif (bif (((Tree.kind t) : Int) == 10) then ((((Tree.kids t).length : Int) : Int) == 0) else false) then ((((Tree.words t).length : Int) : Int) == 1) else false) = true → (0 : Int) ≤ 0 ∧ 0 < ((Tree.words t).length : Int)) ∧ ((bif (bif (((Tree.kind t) : Int) == 10) then ((((Tree.kids t).length : Int) : Int) == 0) else false) then ((((Tree.words t).length : Int) : Int) == 1) else false) = true → pre89 (((l : Int) - 2), (List.getD (Tree.words t) (Int.toNat 0) (0 : Int)), ())) ∧ (Q .ret (⟨[(4, .c (.bool (bif (bif (bif (((Tree.kind t) : Int) == 10) then ((((Tree.kids t).length : Int) : Int) == 0) else false) then ((((Tree.words t).length : Int) : Int) == 1) else false) then (fits ((l : Int) - 2) (List.getD (Tree.words t) (Int.toNat 0) (0 : Int))) else false)))], [], []⟩ : LSt U))) ∧ ((decide (2 ≤ l ∧ l ≤ 7)) = false → (((l : Int) == 9) = true → Q .ret (⟨[(4, .c (.bool (((Tree.kind t) : Int) == 1)))], [], []⟩ : LSt U)) ∧ (((l : Int) == 9) = false → Q .ret (⟨[(4, .c (.bool (((Tree.kind t) : Int) != 10)))], [], []⟩ : LSt U))))) :
    awp cfg (know know70) (drawOk cfg (know know70)) Try.f70.ntmps lv70 (cd Try.f70 []) (⟨[(0, .c (.int .i64 l)), (1, .agg [.int .i64 (Tree.kind t), .slice (U := U) .u64 (Tree.words t) .unk, .slice (U := U) .tree (Tree.kids t) .unk])], [], []⟩ : LSt U) Q := by
  have e : (awp cfg (know know70) (drawOk cfg (know know70)) Try.f70.ntmps lv70 (cd Try.f70 []) (⟨[(0, .c (.int .i64 l)), (1, .agg [.int .i64 (Tree.kind t), .slice (U := U) .u64 (Tree.words t) .unk, .slice (U := U) .tree (Tree.kids t) .unk])], [], []⟩ : LSt U) Q) = (let zz1 := (bif ((Tree.kind t) == 10) then (((Tree.kids t).length : Int) == 0) else false); let zz0 := (bif zz1 then (((Tree.words t).length : Int) == 1) else false); ((pre86 (l, ())) ∧ (((decide (2 ≤ l ∧ l ≤ 7)) = true → (TrEVR07G (((Tree.kind t) == 10) = true)) ∧ (TrEVR07G (((Tree.kind t) == 10) = true)) ∧ (TrEVR07G (((Tree.kind t) == 10) = true)) ∧ ((TrEVR07G (((Tree.kind t) == 10) = true))) ∧ (TrEVR07G (zz1 = true)) ∧ (TrEVR07G (zz1 = true)) ∧ (TrEVR07G (zz1 = true)) ∧ ((TrEVR07G (zz1 = true))) ∧ (TrEVR07G (zz0 = true)) ∧ (zz0 = true → InR ((l : Int) - 2)) ∧ (TrEVR07G (zz0 = true)) ∧ (TrEVR07G (zz0 = true)) ∧ (zz0 = true → (0 : Int) ≤ 0 ∧ 0 < ((Tree.words t).length : Int)) ∧ (TrEVR07G (zz0 = true)) ∧ (TrEVR07G (zz0 = true)) ∧ (TrEVR07G (zz0 = true)) ∧ (zz0 = true → pre89 (((l : Int) - 2), (List.getD (Tree.words t) (Int.toNat 0) (0 : Int)), ())) ∧ ((TrEVR07G (zz0 = true))) ∧ (Q .ret (⟨[(4, .c (.bool (bif zz0 then (fits ((l : Int) - 2) (List.getD (Tree.words t) (Int.toNat 0) (0 : Int))) else false)))], [], []⟩ : LSt U))) ∧ ((decide (2 ≤ l ∧ l ≤ 7)) = false → ((((l : Int) == 9) = true → (Q .ret (⟨[(4, .c (.bool ((Tree.kind t) == 1)))], [], []⟩ : LSt U))) ∧ (((l : Int) == 9) = false → (Q .ret (⟨[(4, .c (.bool ((Tree.kind t) != 10)))], [], []⟩ : LSt U)))))))) := by kernel_rfl
  exact e.mpr ⟨h.1, ⟨fun c_10 => ⟨id, id, id, (by generalize (((Tree.kind t) : Int) == 10) = b0; revert b0; decide), id, id, id, (by generalize ((((Tree.kids t).length : Int) : Int) == 0) = b0; generalize (((Tree.kind t) : Int) == 10) = b1; revert b0 b1; decide), id, (h.2.1 c_10).1, id, id, (h.2.1 c_10).2.1, id, id, id, (h.2.1 c_10).2.2.1, (by generalize ((((Tree.words t).length : Int) : Int) == 1) = b0; generalize ((((Tree.kids t).length : Int) : Int) == 0) = b1; generalize (((Tree.kind t) : Int) == 10) = b2; revert b0 b1 b2; decide), (h.2.1 c_10).2.2.2⟩, fun c_10 => ⟨fun c_11 => ((h.2.2 c_10).1 c_11), fun c_11 => ((h.2.2 c_10).2 c_11)⟩⟩⟩
def Body70 (l : Int) (t : Tree)  : Prop := awp cfg (know (know70)) (drawOk cfg (know (know70))) Try.f70.ntmps lv70 (cd Try.f70 []) (entry (args70.can (l, t, ())) []) (EndsQ cfg Try.f70.ntmps Try.f70.results.toList (res70 (l, t, ())) [])
theorem make70 (c86 : Contract Try.prog cfg 86 spec86) (c89 : Contract Try.prog cfg 89 spec89) (hb : ∀ (l : Int) (t : Tree) (_ : Unit), pre70 (l, t, ()) → Body70 l t) : Contract Try.prog cfg 70 spec70 :=
  contract_flat (l := [(86, spec86), (89, spec89)]) cfgOk rfl (⟨c86, c89, trivial⟩) lv70 Try.func70 rfl rfl 2 (fun _ => rfl) (by decide) (fun ⟨l, t, _⟩ => hb l t ())
noncomputable def know39 (N : Nat) : List (FuncId × Fs U) := (39, fs args39 (fun a => [pre39 a, mu39 a < N]) res39) :: [(69, spec69), (70, spec70)]
def lv39 : Lives U := fun i => match i with
  | 0 => ([(1, []), (2, [])], [((.loc 2), [])])
  | 1 => ([(1, []), (2, []), (8, [])], [((.loc 2), [])])
  | 2 => ([(4, [])], [])
  | 3 => ([(1, []), (2, []), (22, [])], [((.loc 2), [])])
  | 4 => ([(4, [])], [])
  | 5 => ([(1, []), (2, []), (36, [])], [((.loc 2), [])])
  | 6 => ([(4, [])], [])
  | 7 => ([(1, []), (2, []), (39, [])], [((.loc 2), [])])
  | 8 => ([(1, []), (2, []), (52, [])], [((.loc 2), [])])
  | 9 => ([(4, [])], [])
  | 10 => ([(1, []), (2, []), (53, [])], [((.loc 2), [])])
  | 11 => ([(4, [])], [])
  | 12 => ([(1, []), (2, []), (71, []), (72, []), (73, [])], [((.loc 2), [])])
  | 13 => ([(1, []), (2, []), (71, []), (72, []), (73, []), (74, [])], [((.loc 2), [])])
  | 14 => ([(1, []), (2, []), (6, []), (71, []), (72, []), (73, [])], [((.loc 2), []), ((.loc 6), [])])
  | 15 => ([(1, []), (2, []), (6, []), (7, []), (71, []), (72, []), (73, [])], [((.loc 2), []), ((.loc 6), [])])
  | 16 => ([(1, []), (2, []), (6, []), (7, []), (71, []), (72, []), (73, []), (82, [])], [((.loc 2), []), ((.loc 6), [])])
  | 17 => ([(1, []), (2, []), (6, []), (7, []), (71, []), (72, []), (73, [])], [((.loc 2), []), ((.loc 6), [])])
  | 18 => ([(1, []), (2, []), (71, []), (72, []), (73, []), (95, [])], [((.loc 2), [])])
  | 19 => ([(4, [])], [])
  | 20 => ([(1, []), (2, []), (71, []), (72, []), (73, [])], [((.loc 2), [])])
  | 21 => ([(4, [])], [])
  | _ => ([], [])
def head39_0 (t : Tree) (d : Int) (x73 : Int) : LSt U := (⟨[(1, .c (.int .i64 d)), (2, .ptr (.loc 2) 0), (71, .c (.slice (U := U) .tree (Tree.kids t) .unk)), (72, .c (.int .i64 ((Tree.kids t).length : Int))), (73, .c (.int .i64 x73))], [((.loc 2), [.int .i64 (Tree.kind t), .slice (U := U) .u64 (Tree.words t) .unk, .slice (U := U) .tree (Tree.kids t) .unk])], []⟩ : LSt U)
abbrev a39_EVR07G (N : Nat) := awp cfg (know (know39 N)) (drawOk cfg (know (know39 N))) Try.f39.ntmps lv39
abbrev s39_EVR07G (N : Nat) := seqK cfg (know (know39 N)) (drawOk cfg (know (know39 N))) Try.f39.ntmps lv39
theorem vc39 (N : Nat) (t : Tree) (d : Int) (Q : AExit → LSt U → Prop) (h : ((((Tree.kind t) : Int) == 0) = true → Q .ret (⟨[(4, .c (.bool (bif ((((Tree.words t).length : Int) : Int) == 0) then ((((Tree.kids t).length : Int) : Int) == 0) else false)))], [], []⟩ : LSt U)) ∧ ((((Tree.kind t) : Int) == 0) = false → ((((Tree.kind t) : Int) == 10) = true → Q .ret (⟨[(4, .c (.bool (bif ((((Tree.words t).length : Int) : Int) == 1) then ((((Tree.kids t).length : Int) : Int) == 0) else false)))], [], []⟩ : LSt U)) ∧ ((((Tree.kind t) : Int) == 10) = false → (((d : Int) == 0) = true → Q .ret (⟨[(4, .c (.bool false))], [], []⟩ : LSt U)) ∧ (((d : Int) == 0) = false → ((((Tree.kind t) : Int) == 1) = true → ((bif (decide ((65536 : Int) ≤ ((Tree.words t).length : Int))) then true else (decide ((65536 : Int) ≤ ((Tree.kids t).length : Int)))) = true → Q .ret (⟨[(4, .c (.bool false))], [], []⟩ : LSt U)) ∧ ((bif (decide ((65536 : Int) ≤ ((Tree.words t).length : Int))) then true else (decide ((65536 : Int) ≤ ((Tree.kids t).length : Int)))) = false → LoopWp (awp cfg (know (know39 N)) (drawOk cfg (know (know39 N))) Try.f39.ntmps lv39 (cd Try.f39 [1, 1, 0, 1, 0, 0])) (head39_0 t d 0) (AExit.inBlock 1 (seqK cfg (know (know39 N)) (drawOk cfg (know (know39 N))) Try.f39.ntmps lv39 (cd Try.f39 [1, 1, 1]) Q)))) ∧ ((((Tree.kind t) : Int) == 1) = false → (pre69 ((Tree.kind t), ())) ∧ (((bif (bif (!(decide (2 ≤ (Tree.kind t) ∧ (Tree.kind t) ≤ 9))) then true else (decide ((0 : Int) < ((Tree.words t).length : Int)))) then true else (decide ((1048576 : Int) ≤ ((Tree.kids t).length : Int)))) = true → Q .ret (⟨[(4, .c (.bool false))], [], []⟩ : LSt U)) ∧ ((bif (bif (!(decide (2 ≤ (Tree.kind t) ∧ (Tree.kind t) ≤ 9))) then true else (decide ((0 : Int) < ((Tree.words t).length : Int)))) then true else (decide ((1048576 : Int) ≤ ((Tree.kids t).length : Int)))) = false → LoopWp (awp cfg (know (know39 N)) (drawOk cfg (know (know39 N))) Try.f39.ntmps lv39 (cd Try.f39 [1, 1, 0, 1, 0, 0])) (head39_0 t d 0) (AExit.inBlock 1 (seqK cfg (know (know39 N)) (drawOk cfg (know (know39 N))) Try.f39.ntmps lv39 (cd Try.f39 [1, 1, 1]) Q))))))))) :
    awp cfg (know (know39 N)) (drawOk cfg (know (know39 N))) Try.f39.ntmps lv39 (cd Try.f39 []) (⟨[(0, .agg [.int .i64 (Tree.kind t), .slice (U := U) .u64 (Tree.words t) .unk, .slice (U := U) .tree (Tree.kids t) .unk]), (1, .c (.int .i64 d))], [], []⟩ : LSt U) Q := by
  have e : (awp cfg (know (know39 N)) (drawOk cfg (know (know39 N))) Try.f39.ntmps lv39 (cd Try.f39 []) (⟨[(0, .agg [.int .i64 (Tree.kind t), .slice (U := U) .u64 (Tree.words t) .unk, .slice (U := U) .tree (Tree.kids t) .unk]), (1, .c (.int .i64 d))], [], []⟩ : LSt U) Q) = (let zz6 := (decide ((65536 : Int) ≤ ((Tree.kids t).length : Int))); let zz5 := (decide ((1048576 : Int) ≤ ((Tree.kids t).length : Int))); let zz4 := (((Tree.words t).length : Int) == 1); let zz3 := (((Tree.words t).length : Int) == 0); let zz2 := (!(decide (2 ≤ (Tree.kind t) ∧ (Tree.kind t) ≤ 9))); let zz1 := (decide ((65536 : Int) ≤ ((Tree.words t).length : Int))); let zz0 := (bif zz2 then true else (decide ((0 : Int) < ((Tree.words t).length : Int)))); (((((Tree.kind t) == 0) = true → (TrEVR07G (zz3 = true)) ∧ (TrEVR07G (zz3 = true)) ∧ (TrEVR07G (zz3 = true)) ∧ ((TrEVR07G (zz3 = true))) ∧ (Q .ret (⟨[(4, .c (.bool (bif zz3 then (((Tree.kids t).length : Int) == 0) else false)))], [], []⟩ : LSt U))) ∧ (((Tree.kind t) == 0) = false → ((((Tree.kind t) == 10) = true → (TrEVR07G (zz4 = true)) ∧ (TrEVR07G (zz4 = true)) ∧ (TrEVR07G (zz4 = true)) ∧ ((TrEVR07G (zz4 = true))) ∧ (Q .ret (⟨[(4, .c (.bool (bif zz4 then (((Tree.kids t).length : Int) == 0) else false)))], [], []⟩ : LSt U))) ∧ (((Tree.kind t) == 10) = false → ((((d : Int) == 0) = true → (Q .ret (⟨[(4, .c (.bool false))], [], []⟩ : LSt U))) ∧ (((d : Int) == 0) = false → ((((Tree.kind t) == 1) = true → (TrEVR07G ((!zz1) = true)) ∧ (TrEVR07G ((!zz1) = true)) ∧ (TrEVR07G ((!zz1) = true)) ∧ ((zz1 = false → (!zz1) = true)) ∧ (((bif zz1 then true else zz6) = true → (Q .ret (⟨[(4, .c (.bool false))], [], []⟩ : LSt U))) ∧ ((bif zz1 then true else zz6) = false → (LoopWp (a39_EVR07G N (cd Try.f39 [1, 1, 0, 1, 0, 0])) (head39_0 t d 0) (AExit.inBlock 1 (s39_EVR07G N (cd Try.f39 [1, 1, 1]) Q)))))) ∧ (((Tree.kind t) == 1) = false → (pre69 ((Tree.kind t), ())) ∧ (TrEVR07G ((!zz2) = true)) ∧ (TrEVR07G ((!zz2) = true)) ∧ (TrEVR07G ((!zz2) = true)) ∧ ((zz2 = false → (!zz2) = true)) ∧ (TrEVR07G ((!zz0) = true)) ∧ (TrEVR07G ((!zz0) = true)) ∧ (TrEVR07G ((!zz0) = true)) ∧ ((zz0 = false → (!zz0) = true)) ∧ (((bif zz0 then true else zz5) = true → (Q .ret (⟨[(4, .c (.bool false))], [], []⟩ : LSt U))) ∧ ((bif zz0 then true else zz5) = false → (LoopWp (a39_EVR07G N (cd Try.f39 [1, 1, 0, 1, 0, 0])) (head39_0 t d 0) (AExit.inBlock 1 (s39_EVR07G N (cd Try.f39 [1, 1, 1]) Q))))))))))))))) := by kernel_rfl
  exact e.mpr ⟨fun c_12 => ⟨id, id, id, (by generalize ((((Tree.words t).length : Int) : Int) == 0) = b0; revert b0; decide), (h.1 c_12)⟩, fun c_12 => ⟨fun c_13 => ⟨id, id, id, (by generalize ((((Tree.words t).length : Int) : Int) == 1) = b0; revert b0; decide), ((h.2 c_12).1 c_13)⟩, fun c_13 => ⟨fun c_14 => (((h.2 c_12).2 c_13).1 c_14), fun c_14 => ⟨fun c_15 => ⟨id, id, id, (by generalize (decide ((65536 : Int) ≤ ((Tree.words t).length : Int))) = b0; revert b0; decide), ⟨fun c_16 => (((((h.2 c_12).2 c_13).2 c_14).1 c_15).1 c_16), fun c_16 => (((((h.2 c_12).2 c_13).2 c_14).1 c_15).2 c_16)⟩⟩, fun c_15 => ⟨((((h.2 c_12).2 c_13).2 c_14).2 c_15).1, id, id, id, (by generalize (decide (2 ≤ (Tree.kind t) ∧ (Tree.kind t) ≤ 9)) = b0; revert b0; decide), id, id, id, (by generalize (decide ((0 : Int) < ((Tree.words t).length : Int))) = b0; generalize (decide (2 ≤ (Tree.kind t) ∧ (Tree.kind t) ≤ 9)) = b1; revert b0 b1; decide), ⟨fun c_17 => (((((h.2 c_12).2 c_13).2 c_14).2 c_15).2.1 c_17), fun c_17 => (((((h.2 c_12).2 c_13).2 c_14).2 c_15).2.2 c_17)⟩⟩⟩⟩⟩⟩
theorem vc39_l0 (N : Nat) (t : Tree) (d : Int) (x73 : Int) (N0 : LSt U → Prop) (Q : AExit → LSt U → Prop) (h : ((decide ((x73 : Int) < ((Tree.kids t).length : Int))) = true → ((0 : Int) ≤ x73 ∧ x73 < ((Tree.kids t).length : Int)) ∧ (((((Tree.kind t) : Int) != 1) = true → (pre70 ((Tree.kind t), (Tree.mk (Tree.kind (List.getD (Tree.kids t) (Int.toNat x73) Tree.nil)) (Tree.words (List.getD (Tree.kids t) (Int.toNat x73) Tree.nil)) (Tree.kids (List.getD (Tree.kids t) (Int.toNat x73) Tree.nil))), ())) ∧ (((!(!(kidB (Tree.kind t) (Tree.mk (Tree.kind (List.getD (Tree.kids t) (Int.toNat x73) Tree.nil)) (Tree.words (List.getD (Tree.kids t) (Int.toNat x73) Tree.nil)) (Tree.kids (List.getD (Tree.kids t) (Int.toNat x73) Tree.nil)))))) = true → InR ((d : Int) - 1)) ∧ ((!(!(kidB (Tree.kind t) (Tree.mk (Tree.kind (List.getD (Tree.kids t) (Int.toNat x73) Tree.nil)) (Tree.words (List.getD (Tree.kids t) (Int.toNat x73) Tree.nil)) (Tree.kids (List.getD (Tree.kids t) (Int.toNat x73) Tree.nil)))))) = true → pre39 ((Tree.mk (Tree.kind (List.getD (Tree.kids t) (Int.toNat x73) Tree.nil)) (Tree.words (List.getD (Tree.kids t) (Int.toNat x73) Tree.nil)) (Tree.kids (List.getD (Tree.kids t) (Int.toNat x73) Tree.nil))), ((d : Int) - 1), ())) ∧ ((!(!(kidB (Tree.kind t) (Tree.mk (Tree.kind (List.getD (Tree.kids t) (Int.toNat x73) Tree.nil)) (Tree.words (List.getD (Tree.kids t) (Int.toNat x73) Tree.nil)) (Tree.kids (List.getD (Tree.kids t) (Int.toNat x73) Tree.nil)))))) = true → mu39 ((Tree.mk (Tree.kind (List.getD (Tree.kids t) (Int.toNat x73) Tree.nil)) (Tree.words (List.getD (Tree.kids t) (Int.toNat x73) Tree.nil)) (Tree.kids (List.getD (Tree.kids t) (Int.toNat x73) Tree.nil))), ((d : Int) - 1), ()) < N) ∧ (((bif (!(kidB (Tree.kind t) (Tree.mk (Tree.kind (List.getD (Tree.kids t) (Int.toNat x73) Tree.nil)) (Tree.words (List.getD (Tree.kids t) (Int.toNat x73) Tree.nil)) (Tree.kids (List.getD (Tree.kids t) (Int.toNat x73) Tree.nil))))) then true else (!(rightT (Tree.mk (Tree.kind (List.getD (Tree.kids t) (Int.toNat x73) Tree.nil)) (Tree.words (List.getD (Tree.kids t) (Int.toNat x73) Tree.nil)) (Tree.kids (List.getD (Tree.kids t) (Int.toNat x73) Tree.nil))) ((d : Int) - 1)))) = true → Q .ret (⟨[(4, .c (.bool false))], [], []⟩ : LSt U)) ∧ ((bif (!(kidB (Tree.kind t) (Tree.mk (Tree.kind (List.getD (Tree.kids t) (Int.toNat x73) Tree.nil)) (Tree.words (List.getD (Tree.kids t) (Int.toNat x73) Tree.nil)) (Tree.kids (List.getD (Tree.kids t) (Int.toNat x73) Tree.nil))))) then true else (!(rightT (Tree.mk (Tree.kind (List.getD (Tree.kids t) (Int.toNat x73) Tree.nil)) (Tree.words (List.getD (Tree.kids t) (Int.toNat x73) Tree.nil)) (Tree.kids (List.getD (Tree.kids t) (Int.toNat x73) Tree.nil))) ((d : Int) - 1)))) = false → (InR ((x73 : Int) + 1)) ∧ (N0 (head39_0 t d ((x73 : Int) + 1))))))) ∧ ((((Tree.kind t) : Int) != 1) = false → ((!(!(((Tree.kind (List.getD (Tree.kids t) (Int.toNat x73) Tree.nil)) : Int) != 10))) = true → InR ((d : Int) - 1)) ∧ ((!(!(((Tree.kind (List.getD (Tree.kids t) (Int.toNat x73) Tree.nil)) : Int) != 10))) = true → pre39 ((Tree.mk (Tree.kind (List.getD (Tree.kids t) (Int.toNat x73) Tree.nil)) (Tree.words (List.getD (Tree.kids t) (Int.toNat x73) Tree.nil)) (Tree.kids (List.getD (Tree.kids t) (Int.toNat x73) Tree.nil))), ((d : Int) - 1), ())) ∧ ((!(!(((Tree.kind (List.getD (Tree.kids t) (Int.toNat x73) Tree.nil)) : Int) != 10))) = true → mu39 ((Tree.mk (Tree.kind (List.getD (Tree.kids t) (Int.toNat x73) Tree.nil)) (Tree.words (List.getD (Tree.kids t) (Int.toNat x73) Tree.nil)) (Tree.kids (List.getD (Tree.kids t) (Int.toNat x73) Tree.nil))), ((d : Int) - 1), ()) < N) ∧ (((bif (!(((Tree.kind (List.getD (Tree.kids t) (Int.toNat x73) Tree.nil)) : Int) != 10)) then true else (!(rightT (Tree.mk (Tree.kind (List.getD (Tree.kids t) (Int.toNat x73) Tree.nil)) (Tree.words (List.getD (Tree.kids t) (Int.toNat x73) Tree.nil)) (Tree.kids (List.getD (Tree.kids t) (Int.toNat x73) Tree.nil))) ((d : Int) - 1)))) = true → Q .ret (⟨[(4, .c (.bool false))], [], []⟩ : LSt U)) ∧ ((bif (!(((Tree.kind (List.getD (Tree.kids t) (Int.toNat x73) Tree.nil)) : Int) != 10)) then true else (!(rightT (Tree.mk (Tree.kind (List.getD (Tree.kids t) (Int.toNat x73) Tree.nil)) (Tree.words (List.getD (Tree.kids t) (Int.toNat x73) Tree.nil)) (Tree.kids (List.getD (Tree.kids t) (Int.toNat x73) Tree.nil))) ((d : Int) - 1)))) = false → (InR ((x73 : Int) + 1)) ∧ (N0 (head39_0 t d ((x73 : Int) + 1)))))))) ∧ ((decide ((x73 : Int) < ((Tree.kids t).length : Int))) = false → Q .ret (⟨[(4, .c (.bool true))], [], []⟩ : LSt U))) :
    awp cfg (know (know39 N)) (drawOk cfg (know (know39 N))) Try.f39.ntmps lv39 (cd Try.f39 [1, 1, 0, 1, 0, 0]) (head39_0 t d x73) (AExit.then N0 (AExit.inBlock 1 (seqK cfg (know (know39 N)) (drawOk cfg (know (know39 N))) Try.f39.ntmps lv39 (cd Try.f39 [1, 1, 1]) Q))) := by
  have e : (awp cfg (know (know39 N)) (drawOk cfg (know (know39 N))) Try.f39.ntmps lv39 (cd Try.f39 [1, 1, 0, 1, 0, 0]) (head39_0 t d x73) (AExit.then N0 (AExit.inBlock 1 (seqK cfg (know (know39 N)) (drawOk cfg (know (know39 N))) Try.f39.ntmps lv39 (cd Try.f39 [1, 1, 1]) Q)))) = (let zz2 := (!(rightT (Tree.mk (Tree.kind (List.getD (Tree.kids t) (Int.toNat x73) Tree.nil)) (Tree.words (List.getD (Tree.kids t) (Int.toNat x73) Tree.nil)) (Tree.kids (List.getD (Tree.kids t) (Int.toNat x73) Tree.nil))) ((d : Int) - 1))); let zz1 := (!(((Tree.kind (List.getD (Tree.kids t) (Int.toNat x73) Tree.nil)) : Int) != 10)); let zz0 := (!(kidB (Tree.kind t) (Tree.mk (Tree.kind (List.getD (Tree.kids t) (Int.toNat x73) Tree.nil)) (Tree.words (List.getD (Tree.kids t) (Int.toNat x73) Tree.nil)) (Tree.kids (List.getD (Tree.kids t) (Int.toNat x73) Tree.nil))))); (((decide ((x73 : Int) < ((Tree.kids t).length : Int))) = true → ((0 : Int) ≤ x73 ∧ x73 < ((Tree.kids t).length : Int)) ∧ ((((((Tree.kind t) != 1) = true → (pre70 ((Tree.kind t), (Tree.mk (Tree.kind (List.getD (Tree.kids t) (Int.toNat x73) Tree.nil)) (Tree.words (List.getD (Tree.kids t) (Int.toNat x73) Tree.nil)) (Tree.kids (List.getD (Tree.kids t) (Int.toNat x73) Tree.nil))), ())) ∧ ((TrEVR07G ((!zz0) = true)) ∧ ((!zz0) = true → InR ((d : Int) - 1)) ∧ (TrEVR07G ((!zz0) = true)) ∧ (TrEVR07G ((!zz0) = true)) ∧ ((!zz0) = true → pre39 ((Tree.mk (Tree.kind (List.getD (Tree.kids t) (Int.toNat x73) Tree.nil)) (Tree.words (List.getD (Tree.kids t) (Int.toNat x73) Tree.nil)) (Tree.kids (List.getD (Tree.kids t) (Int.toNat x73) Tree.nil))), ((d : Int) - 1), ())) ∧ ((!zz0) = true → mu39 ((Tree.mk (Tree.kind (List.getD (Tree.kids t) (Int.toNat x73) Tree.nil)) (Tree.words (List.getD (Tree.kids t) (Int.toNat x73) Tree.nil)) (Tree.kids (List.getD (Tree.kids t) (Int.toNat x73) Tree.nil))), ((d : Int) - 1), ()) < N) ∧ (TrEVR07G ((!zz0) = true)) ∧ ((zz0 = false → (!zz0) = true)) ∧ (((bif zz0 then true else zz2) = true → (Q .ret (⟨[(4, .c (.bool false))], [], []⟩ : LSt U))) ∧ ((bif zz0 then true else zz2) = false → (InR ((x73 : Int) + 1)) ∧ (N0 (head39_0 t d ((x73 : Int) + 1))))))) ∧ (((Tree.kind t) != 1) = false → (TrEVR07G ((!zz1) = true)) ∧ ((!zz1) = true → InR ((d : Int) - 1)) ∧ (TrEVR07G ((!zz1) = true)) ∧ (TrEVR07G ((!zz1) = true)) ∧ ((!zz1) = true → pre39 ((Tree.mk (Tree.kind (List.getD (Tree.kids t) (Int.toNat x73) Tree.nil)) (Tree.words (List.getD (Tree.kids t) (Int.toNat x73) Tree.nil)) (Tree.kids (List.getD (Tree.kids t) (Int.toNat x73) Tree.nil))), ((d : Int) - 1), ())) ∧ ((!zz1) = true → mu39 ((Tree.mk (Tree.kind (List.getD (Tree.kids t) (Int.toNat x73) Tree.nil)) (Tree.words (List.getD (Tree.kids t) (Int.toNat x73) Tree.nil)) (Tree.kids (List.getD (Tree.kids t) (Int.toNat x73) Tree.nil))), ((d : Int) - 1), ()) < N) ∧ (TrEVR07G ((!zz1) = true)) ∧ ((zz1 = false → (!zz1) = true)) ∧ (((bif zz1 then true else zz2) = true → (Q .ret (⟨[(4, .c (.bool false))], [], []⟩ : LSt U))) ∧ ((bif zz1 then true else zz2) = false → (InR ((x73 : Int) + 1)) ∧ (N0 (head39_0 t d ((x73 : Int) + 1)))))))))) ∧ ((decide ((x73 : Int) < ((Tree.kids t).length : Int))) = false → (Q .ret (⟨[(4, .c (.bool true))], [], []⟩ : LSt U))))) := by kernel_rfl
  exact e.mpr ⟨fun c_18 => ⟨(h.1 c_18).1, ⟨fun c_19 => ⟨((h.1 c_18).2.1 c_19).1, ⟨id, ((h.1 c_18).2.1 c_19).2.1, id, id, ((h.1 c_18).2.1 c_19).2.2.1, ((h.1 c_18).2.1 c_19).2.2.2.1, id, (by generalize (kidB (Tree.kind t) (Tree.mk (Tree.kind (List.getD (Tree.kids t) (Int.toNat x73) Tree.nil)) (Tree.words (List.getD (Tree.kids t) (Int.toNat x73) Tree.nil)) (Tree.kids (List.getD (Tree.kids t) (Int.toNat x73) Tree.nil)))) = b0; revert b0; decide), ⟨fun c_20 => (((h.1 c_18).2.1 c_19).2.2.2.2.1 c_20), fun c_20 => ⟨(((h.1 c_18).2.1 c_19).2.2.2.2.2 c_20).1, (((h.1 c_18).2.1 c_19).2.2.2.2.2 c_20).2⟩⟩⟩⟩, fun c_19 => ⟨id, ((h.1 c_18).2.2 c_19).1, id, id, ((h.1 c_18).2.2 c_19).2.1, ((h.1 c_18).2.2 c_19).2.2.1, id, (by generalize (((Tree.kind (List.getD (Tree.kids t) (Int.toNat x73) Tree.nil)) : Int) != 10) = b0; revert b0; decide), ⟨fun c_21 => (((h.1 c_18).2.2 c_19).2.2.2.1 c_21), fun c_21 => ⟨(((h.1 c_18).2.2 c_19).2.2.2.2 c_21).1, (((h.1 c_18).2.2 c_19).2.2.2.2 c_21).2⟩⟩⟩⟩⟩, fun c_18 => (h.2 c_18)⟩
def Body39 (N : Nat) (t : Tree) (d : Int)  : Prop := awp cfg (know (know39 N)) (drawOk cfg (know (know39 N))) Try.f39.ntmps lv39 (cd Try.f39 []) (entry (args39.can (t, d, ())) []) (EndsQ cfg Try.f39.ntmps Try.f39.results.toList (res39 (t, d, ())) [])
theorem make39 (c69 : Contract Try.prog cfg 69 spec69) (c70 : Contract Try.prog cfg 70 spec70) (hb : ∀ (N : Nat) (t : Tree) (d : Int) (_ : Unit), pre39 (t, d, ()) → mu39 (t, d, ()) < N + 1 → Body39 N t d) : Contract Try.prog cfg 39 spec39 :=
  contract_rec (μ := mu39) (l := [(69, spec69), (70, spec70)]) cfgOk rfl (⟨c69, c70, trivial⟩) lv39 Try.func39 rfl rfl 2 (fun _ => rfl) (by decide) (fun N ⟨t, d, _⟩ => hb N t d ())
noncomputable def know20 : List (FuncId × Fs U) := [(39, spec39)]
def lv20 : Lives U := fun i => match i with
  | 0 => ([(1, [])], [((.loc 1), [])])
  | 1 => ([(2, [])], [])
  | _ => ([], [])
theorem vc20 (t : Tree) (Q : AExit → LSt U → Prop) (h : (pre39 ((Tree.mk (Tree.kind t) (Tree.words t) (Tree.kids t)), 64, ())) ∧ (Q .ret (⟨[(2, .c (.bool (rightT (Tree.mk (Tree.kind t) (Tree.words t) (Tree.kids t)) 64)))], [], []⟩ : LSt U))) :
    awp cfg (know know20) (drawOk cfg (know know20)) Try.f20.ntmps lv20 (cd Try.f20 []) (⟨[(0, .agg [.int .i64 (Tree.kind t), .slice (U := U) .u64 (Tree.words t) .unk, .slice (U := U) .tree (Tree.kids t) .unk])], [], []⟩ : LSt U) Q := by
  have e : (awp cfg (know know20) (drawOk cfg (know know20)) Try.f20.ntmps lv20 (cd Try.f20 []) (⟨[(0, .agg [.int .i64 (Tree.kind t), .slice (U := U) .u64 (Tree.words t) .unk, .slice (U := U) .tree (Tree.kids t) .unk])], [], []⟩ : LSt U) Q) = (type_of% h) := by kernel_rfl
  exact e.mpr ⟨h.1, h.2⟩
def Body20 (t : Tree)  : Prop := awp cfg (know (know20)) (drawOk cfg (know (know20))) Try.f20.ntmps lv20 (cd Try.f20 []) (entry (args20.can (t, ())) []) (EndsQ cfg Try.f20.ntmps Try.f20.results.toList (res20 (t, ())) [])
theorem make20 (c39 : Contract Try.prog cfg 39 spec39) (hb : ∀ (t : Tree) (_ : Unit), pre20 (t, ()) → Body20 t) : Contract Try.prog cfg 20 spec20 :=
  contract_flat (l := [(39, spec39)]) cfgOk rfl (⟨c39, trivial⟩) lv20 Try.func20 rfl rfl 1 (fun _ => rfl) (by decide) (fun ⟨t, _⟩ => hb t ())
end
end Go.AM.Ytcljdbpmjdgooaa

namespace Go.AM.Ytcljdbpmjdgooaa
open Go.AM Go.Proofs
mutual
theorem shallow_mass : ∀ (t : Tree) (d l : Int), 0 ≤ shallow t d l → (mass t : Int) + shallow t d l ≤ l
  | .mk _ w ks, d, l, h => by
    simp only [shallow] at h ⊢
    split at h
    · omega
    · rename_i hc
      rw [if_neg hc]
      have := shallowK_mass ks (d - 1) (l - 1 - w.length) h
      simp only [mass]
      omega
theorem shallowK_mass : ∀ (ks : List Tree) (d l : Int), 0 ≤ shallowK ks d l → (massK ks : Int) + shallowK ks d l ≤ l
  | [], d, l, h => by simp [shallowK, massK]
  | t :: r, d, l, h => by
    simp only [shallowK] at h ⊢
    split at h
    · omega
    · rename_i hc
      rw [if_neg hc]
      have h1 := shallowK_mass r d (shallow t d l) h
      have h3 := (shallowK_range r d (shallow t d l) (shallow_range t d l).1).2
      have h2 := shallow_mass t d l (by omega)
      simp only [massK]
      omega
end
end Go.AM.Ytcljdbpmjdgooaa

namespace Go.AM.Ytcljdbpmjdgooaa
open Go.AM Go.Proofs
theorem fdiv_pow (n : Int) (w : Nat) (h : 0 ≤ n) : (Int.fdiv n (2 ^ w) = 0) ↔ n < 2 ^ w := by
  have hp : (0 : Int) < 2 ^ w := Int.pow_pos (by omega)
  rw [Int.fdiv_eq_ediv_of_nonneg _ (by omega)]
  constructor
  · intro h1
    have := Int.lt_ediv_add_one_mul_self n hp
    rw [h1] at this
    simpa using this
  · intro h1
    exact Int.ediv_eq_zero_of_lt h h1
theorem c89 : Contract Try.prog cfg 89 spec89 := by
  refine make89 c88 ?_
  intro c n _ hp
  simp only [pre89] at hp
  have hw := wd_le c
  refine vc89 _ _ _ ?_
  refine ⟨trivial, fun h => by split <;> omega, ends_bool rfl ?_⟩
  simp only [fits]
  by_cases h0 : 0 ≤ wd c
  · rw [if_neg (by omega)]
    simp only [h0, decide_true, cond_true, true_and]
    by_cases h64 : wd c = 64
    · simp [h64]
      omega
    · have : ((wd c) == 64) = false := by simpa using h64
      rw [this, cond_false, Bool.eq_iff_iff]
      have hm : min (wd c).toNat (IntKind.bits .u64) = (wd c).toNat := by
        show min (wd c).toNat 64 = _
        omega
      rw [hm]
      simp only [beq_iff_eq, decide_eq_true_eq]
      exact fdiv_pow n _ hp.1
  · simp [h0]
theorem c69 : Contract Try.prog cfg 69 spec69 := by
  refine make69 ?_
  intro c _ _
  refine vc69 _ _ ?_
  refine ends_bool rfl ?_
  rw [Bool.eq_iff_iff]
  (simp only [vcS])
theorem rng_word {t : Tree} (h : rng t) {i : Nat} (hi : i < t.words.length) : 0 ≤ t.words.getD i 0 ∧ t.words.getD i 0 < 18446744073709551616 := by
  obtain ⟨k, w, ks⟩ := t
  simp only [rng] at h
  simp only [Tree.words_mk] at *
  have hg : w.getD i 0 ∈ w := by
    simp only [List.getD, List.getElem?_eq_getElem hi, Option.getD_some]
    exact List.getElem_mem hi
  exact h.2.1 _ hg
theorem c70 : Contract Try.prog cfg 70 spec70 := by
  refine make70 c86 c89 ?_
  intro l t _ hp
  simp only [pre70] at hp
  refine vc70 _ _ _ ?_
  (simp only [vcS])
  refine ⟨trivial, fun hd => ⟨fun _ => by unfold InR; omega, fun h => by omega, fun h => rng_word hp (by omega), ends_bool rfl ?_⟩, fun hd => ⟨fun h => ends_bool rfl ?_, fun h => ends_bool rfl ?_⟩⟩
  · simp only [kidB, if_pos hd, Int.toNat_zero]
    rw [Bool.eq_iff_iff]
    (simp only [vcS])
    constructor <;> (rintro ⟨h1, h2⟩; exact ⟨by omega, h2⟩)
  · simp only [kidB, if_neg hd, if_pos h]
    rw [Bool.eq_iff_iff]
    (simp only [vcS])
  · simp only [kidB, if_neg hd, if_neg h]
    rw [Bool.eq_iff_iff]
    (simp only [vcS])
theorem rightK_drop {l : Int} {ks : List Tree} {i : Int} {d : Int} (h0 : 0 ≤ i) (h : i < ks.length) :
    rightK l (ks.drop i.toNat) d = ((kidB l (ks.getD i.toNat Tree.nil) && rightT (ks.getD i.toNat Tree.nil) d) && rightK l (ks.drop (i + 1).toNat) d) := by
  have e : (i + 1).toNat = i.toNat + 1 := by omega
  rw [List.drop_eq_getElem_cons (by omega), e]
  simp only [rightK, List.getD, List.getElem?_eq_getElem (show i.toNat < ks.length by omega), Option.getD_some]
theorem rngK_get : ∀ {ks : List Tree} {i : Nat}, rngK ks → i < ks.length → rng (ks.getD i Tree.nil)
  | t :: _, 0, h, _ => by simp only [rngK] at h; exact h.1
  | _ :: r, i + 1, h, hi => by simp only [rngK] at h; exact rngK_get (ks := r) (i := i) h.2 (by simpa using hi)
theorem kidB_one (t : Tree) : kidB 1 t = decide (t.kind ≠ 10) := by simp [kidB]
theorem c39 : Contract Try.prog cfg 39 spec39 := by
  refine make39 c69 c70 ?_
  rintro N ⟨k, ws, ks⟩ d _ hp hN
  simp only [pre39, mu39, mass, rng] at hp hN
  have key : ∀ b, d ≠ 0 → rightT (.mk k ws ks) d = (b && rightK k ks (d - 1)) → b = true →
      LoopWp (awp cfg (know (know39 N)) (drawOk cfg (know (know39 N))) Try.f39.ntmps lv39 (cd Try.f39 [1, 1, 0, 1, 0, 0])) (head39_0 (.mk k ws ks) d 0) (AExit.inBlock 1 (seqK cfg (know (know39 N)) (drawOk cfg (know (know39 N))) Try.f39.ntmps lv39 (cd Try.f39 [1, 1, 1]) (EndsQ cfg Try.f39.ntmps Try.f39.results.toList (res39 (.mk k ws ks, d, ())) []))) := by
    intro b hd0 hb hbt
    subst hbt
    rw [Bool.true_and] at hb
    refine loop_rule (ι := Int) (fun p => head39_0 (.mk k ws ks) d p) (fun p => 0 ≤ p ∧ p ≤ ks.length ∧ rightT (.mk k ws ks) d = rightK k (ks.drop p.toNat) (d - 1)) (fun p => ((ks.length : Int) - p).toNat) 0 rfl ⟨by omega, by omega, by simpa using hb⟩ ?_
    rintro i ⟨h1, h2, h3⟩
    refine vc39_l0 N _ _ _ _ _ ?_
    (simp only [vcS])
    (simp only [Tree.eta, Tree.kind_mk, Tree.words_mk, Tree.kids_mk])
    refine ⟨fun hi => ⟨⟨by omega, hi⟩, ?_⟩, fun hi => ?_⟩
    · have hd := rightK_drop (l := k) (d := d - 1) h1 hi
      have hm := massK_get (ks := ks) (i := i.toNat) (by omega)
      have hr := rngK_get (i := i.toNat) hp.2.1.2.2 (by omega)
      rw [hd] at h3
      have hlen := massK_len ks
      generalize ks.getD i.toNat Tree.nil = y at *
      have hpre : pre39 (y, d - 1, ()) := ⟨by dsimp only; omega, hr, by dsimp only; omega, by dsimp only; omega⟩
      have hmu : mu39 (y, d - 1, ()) < N := by simp only [mu39]; omega
      have hin : InR (d - 1) := by unfold InR; omega
      refine ⟨fun hk => ⟨hr, fun _ => hin, fun _ => hpre, fun _ => hmu, fun hc => ends_bool rfl ?_, fun hc => ⟨by unfold InR; omega, i + 1, rfl, ⟨by omega, by omega, ?_⟩, by omega⟩⟩, fun hk => ⟨fun _ => hin, fun _ => hpre, fun _ => hmu, fun hc => ends_bool rfl ?_, fun hc => ⟨by unfold InR; omega, i + 1, rfl, ⟨by omega, by omega, ?_⟩, by omega⟩⟩⟩
      · rw [h3]
        rcases hc with hc | hc <;> simp [hc]
      · rw [h3, hc.1, hc.2]; rfl
      · subst hk
        rw [h3, kidB_one]
        rcases hc with hc | hc <;> simp [hc]
      · subst hk
        rw [h3, kidB_one, hc.2]
        simp [hc.1]
    · rw [List.drop_eq_nil_of_le (by omega)] at h3
      simp only [rightK] at h3
      exact ends_bool rfl h3.symm
  refine vc39 N _ _ _ ?_
  (simp only [vcS])
  (simp only [Tree.eta, Tree.kind_mk, Tree.words_mk, Tree.kids_mk])
  have hk0 : ∀ h0 : k = 0, rightT (.mk k ws ks) d = decide (ws.length = 0 ∧ ks.length = 0) := fun h0 => by simp only [rightT, if_pos h0]
  have hk10 : ∀ (_ : ¬k = 0) (h10 : k = 10), rightT (.mk k ws ks) d = decide (ws.length = 1 ∧ ks.length = 0) := fun h0 h10 => by simp only [rightT, if_neg h0, if_pos h10]
  refine ⟨fun h0 => ends_bool rfl ?_, fun h0 => ⟨fun h10 => ends_bool rfl ?_, fun h10 => ⟨fun hd => ends_bool rfl ?_, fun hd => ⟨fun h1 => ⟨fun hc => ends_bool rfl ?_, fun hc => key true hd ?_ rfl⟩, fun h1 => ⟨trivial, fun hc => ends_bool rfl ?_, fun hc => key true hd ?_ rfl⟩⟩⟩⟩⟩
  · rw [hk0 h0, Bool.eq_iff_iff]; (simp only [vcS]); omega
  · rw [hk10 h0 h10, Bool.eq_iff_iff]; (simp only [vcS]); omega
  · simp only [rightT, if_neg h0, if_neg h10, if_pos hd]
  · simp only [rightT, if_neg h0, if_neg h10, if_neg hd, if_pos h1]
    rw [decide_eq_false (by omega)]; rfl
  · simp only [rightT, if_neg h0, if_neg h10, if_neg hd, if_pos h1]
    rw [decide_eq_true (by omega), h1]
  · simp only [rightT, if_neg h0, if_neg h10, if_neg hd, if_neg h1]
    rw [decide_eq_false (by omega)]; rfl
  · simp only [rightT, if_neg h0, if_neg h10, if_neg hd, if_neg h1]
    rw [decide_eq_true (by omega)]
theorem c20 : Contract Try.prog cfg 20 spec20 := by
  refine make20 c39 ?_
  intro t _ hp
  refine vc20 _ _ ?_
  (simp only [Tree.eta, Tree.kind_mk, Tree.words_mk, Tree.kids_mk])
  exact ⟨⟨hp.1, hp.2, by dsimp only; omega, by dsimp only; omega⟩, ends_bool rfl rfl⟩
end Go.AM.Ytcljdbpmjdgooaa

namespace Go.AM.Ytcljdbpmjdgooaa
open Go.AM Go.Proofs
def args87 : ArgL (Int × Int × Unit) := (.cons (aInt .i64) (.cons (aInt .i64) .nil))
def pre87 (a : Int × Int × Unit) : Prop := True
noncomputable def res87 (a : Int × Int × Unit) : V U := .c (.int .i64 (roomW a.1 a.2.1))
noncomputable def spec87 : Fs U := fs args87 (fun a => [pre87 a]) res87
def args60 : ArgL (Int × List Int × Unit) := (.cons (aInt .i64) (.cons (aSl .u64) .nil))
def pre60 (a : Int × List Int × Unit) : Prop := okW a.2.1 ∧ a.2.1.length ≤ 1099511627776
noncomputable def res60 (a : Int × List Int × Unit) : V U := .tup [(false, [.slice (U := U) .u64 (putR a.1 a.2.1) .unk]), (false, [.bool (fitsA a.1 a.2.1)])]
noncomputable def spec60 : Fs U := fs args60 (fun a => [pre60 a]) res60
noncomputable def know87 : List (FuncId × Fs U) := [(88, spec88)]
def lv87 : Lives U := fun i => match i with
  | 0 => ([(0, []), (1, [])], [])
  | 1 => ([(1, []), (5, []), (6, [])], [])
  | 2 => ([(1, []), (5, []), (21, [])], [])
  | 3 => ([(4, [])], [])
  | 4 => ([(4, [])], [])
  | _ => ([], [])
noncomputable abbrev A87 (p : List Nat) := awp cfg (know know87) (drawOk cfg (know know87)) Try.f87.ntmps lv87 (cd Try.f87 p)
theorem vc87 (c : Int) (n : Int) (Q : AExit → LSt U → Prop) (h : ((pre88 (c, ())) ∧ ((Tr ((!(!(decide (0 ≤ wd c)))) = true)) ∧ (((!(decide (0 ≤ wd c))) = false → (!(!(decide (0 ≤ wd c)))) = true)) ∧ (Tr ((!(bif (!(decide (0 ≤ wd c))) then true else (decide ((n : Int) < 0)))) = true)) ∧ (((bif (!(decide (0 ≤ wd c))) then true else (decide ((n : Int) < 0))) = false → (!(bif (!(decide (0 ≤ wd c))) then true else (decide ((n : Int) < 0)))) = true)) ∧ (((bif (bif (!(decide (0 ≤ wd c))) then true else (decide ((n : Int) < 0))) then true else (decide ((1099511627776 : Int) < n))) = true → (Q .ret (⟨[(4, .c (.int .i64 0))], [], []⟩ : LSt U))) ∧ ((bif (bif (!(decide (0 ≤ wd c))) then true else (decide ((n : Int) < 0))) then true else (decide ((1099511627776 : Int) < n))) = false → (InR ((n : Int) * (if wd c < 0 then 0 else wd c))) ∧ (InR ((((n : Int) * (if wd c < 0 then 0 else wd c)) : Int) + 63)) ∧ ((64 : Int) ≠ 0) ∧ (Q .ret (⟨[(4, .c (.int .i64 (IntKind.wrap .i64 (Int.tdiv ((((n : Int) * (if wd c < 0 then 0 else wd c)) : Int) + 63) 64))))], [], []⟩ : LSt U))))))) :
    A87 [] (⟨[(0, .c (.int .i64 c)), (1, .c (.int .i64 n))], [], []⟩ : LSt U) Q :=
  Eq.mpr (by kernel_rfl) h
def Body87 (c : Int) (n : Int)  : Prop := awp cfg (know (know87)) (drawOk cfg (know (know87))) Try.f87.ntmps lv87 (cd Try.f87 []) (entry (args87.can (c, n, ())) []) (EndsQ cfg Try.f87.ntmps Try.f87.results.toList (res87 (c, n, ())) [])
theorem make87 (c88 : Contract Try.prog cfg 88 spec88) (hb : ∀ (c : Int) (n : Int) (_ : Unit), pre87 (c, n, ()) → Body87 c n) : Contract Try.prog cfg 87 spec87 :=
  contract_flat (l := [(88, spec88)]) cfgOk rfl (⟨c88, trivial⟩) lv87 Try.func87 rfl rfl 2 (fun _ => rfl) (by decide) (fun ⟨c, n, _⟩ => hb c n ())
noncomputable def know60 : List (FuncId × Fs U) := [(88, spec88), (87, spec87), (89, spec89)]
def lv60 : Lives U := fun i => match i with
  | 0 => ([(0, []), (1, [])], [])
  | 1 => ([(0, []), (1, []), (6, []), (7, [])], [])
  | 2 => ([(0, []), (1, []), (6, []), (17, [])], [])
  | 3 => ([(4, []), (5, [])], [])
  | 4 => ([(0, []), (1, []), (6, []), (8, [.wr .u64])], [])
  | 5 => ([(0, []), (6, []), (8, [.wr .u64]), (23, []), (24, []), (25, [])], [])
  | 6 => ([(0, []), (6, []), (8, [.wr .u64]), (23, []), (24, []), (25, []), (26, [])], [])
  | 7 => ([(0, []), (6, []), (8, [.wr .u64]), (9, []), (10, []), (23, []), (24, []), (25, [])], [])
  | 8 => ([(0, []), (6, []), (8, [.wr .u64]), (9, []), (10, []), (23, []), (24, []), (25, []), (33, [])], [])
  | 9 => ([(4, []), (5, [])], [])
  | 10 => ([(0, []), (6, []), (8, [.wr .u64]), (9, []), (10, []), (23, []), (24, []), (25, []), (35, [])], [])
  | 11 => ([(0, []), (6, []), (8, [.wr .u64]), (23, []), (24, []), (25, [])], [])
  | 12 => ([(0, []), (6, []), (8, [.wr .u64]), (23, []), (24, []), (25, [])], [])
  | 13 => ([(4, []), (5, [])], [])
  | _ => ([], [])
noncomputable def head60_0 (c : Int) (ns : List Int) (x25 : Int) (re_8_0 : List Int) : LSt U := (⟨[(0, .c (.int .i64 c)), (6, .c (.int .i64 (if wd c < 0 then 0 else wd c))), (8, .c (.mref (.e 8 0))), (23, .c (.slice (U := U) .u64 ns .unk)), (24, .c (.int .i64 (ns.length : Int))), (25, .c (.int .i64 x25))], [], [(.e 8 0, LC.mk (U := U) .u64 re_8_0 0)]⟩ : LSt U)
noncomputable abbrev A60 (p : List Nat) := awp cfg (knowM know60) (drawOk cfg (knowM know60)) Try.f60.ntmps lv60 (cd Try.f60 p)
noncomputable abbrev S60 (p : List Nat) := seqK cfg (knowM know60) (drawOk cfg (knowM know60)) Try.f60.ntmps lv60 (cd Try.f60 p)
theorem vc60 (c : Int) (ns : List Int) (Q : AExit → LSt U → Prop) (h : ((pre88 (c, ())) ∧ ((((!(decide (0 ≤ wd c))) = true → (Q .ret (⟨[(4, .c (.nils)), (5, .c (.bool false))], [], []⟩ : LSt U))) ∧ ((!(decide (0 ≤ wd c))) = false → (pre87 (c, (ns.length : Int), ())) ∧ ((0 : Int) ≤ roomW c (ns.length : Int) ∧ ((roomW c (ns.length : Int)) : Int) * ((8 : Nat) : Int) ≤ 140737488355328 ∧ (roomW c (ns.length : Int) : Int) ≤ 9223372036854775807) ∧ ((roomW c (ns.length : Int) : Int) = (roomW c (ns.length : Int))) ∧ ((LoopWp (A60 [1, 1, 1, 1, 0, 1, 0, 0]) (head60_0 c ns 0 (List.replicate (Int.toNat (roomW c (ns.length : Int))) (0 : Int))) (AExit.inBlock 0 (S60 [1, 1, 1, 1, 1] Q))))))))) :
    A60 [] (⟨[(0, .c (.int .i64 c)), (1, .c (.slice (U := U) .u64 ns .unk))], [], []⟩ : LSt U) Q :=
  Eq.mpr (by kernel_rfl) h
theorem vc60_l0 (c : Int) (ns : List Int) (x25 : Int) (re_8_0 : List Int) (N0 : LSt U → Prop) (Q : AExit → LSt U → Prop) (h : ∀ y_1, y_1 = (List.getD ns (Int.toNat x25) (0 : Int)) → ∀ y_2, y_2 = (Int.tdiv ((x25 : Int) * (if wd c < 0 then 0 else wd c)) 64) → (((decide ((x25 : Int) < (ns.length : Int))) = true → ((0 : Int) ≤ x25 ∧ x25 < (ns.length : Int)) ∧ ((pre89 (c, y_1, ())) ∧ (((!(fits c y_1)) = true → (Q .ret (⟨[(4, .c (.nils)), (5, .c (.bool false))], [], []⟩ : LSt U))) ∧ ((!(fits c y_1)) = false → (((decide ((0 : Int) < (if wd c < 0 then 0 else wd c))) = true → (InR ((x25 : Int) * (if wd c < 0 then 0 else wd c))) ∧ ((64 : Int) ≠ 0) ∧ ((0 : Int) ≤ (IntKind.wrap .i64 y_2) ∧ (IntKind.wrap .i64 y_2) < (re_8_0.length : Int)) ∧ (InR ((x25 : Int) * (if wd c < 0 then 0 else wd c))) ∧ ((64 : Int) ≠ 0) ∧ ((0 : Int) ≤ (Int.tmod ((x25 : Int) * (if wd c < 0 then 0 else wd c)) 64)) ∧ ((0 : Int) ≤ (IntKind.wrap .i64 y_2) ∧ (IntKind.wrap .i64 y_2) < (re_8_0.length : Int)) ∧ ((0 : Nat) ≤ (Int.toNat (IntKind.wrap .i64 y_2))) ∧ ((InR ((x25 : Int) + 1)) ∧ (N0 (head60_0 c ns ((x25 : Int) + 1) (List.set re_8_0 (Int.toNat (IntKind.wrap .i64 y_2)) (IntKind.wrap .u64 (BitVec.ofInt (IntKind.bits .u64) (List.getD re_8_0 (Int.toNat (IntKind.wrap .i64 y_2)) (0 : Int)) ||| BitVec.ofInt (IntKind.bits .u64) (IntKind.wrap .u64 ((y_1 : Int) * 2 ^ (min (Int.toNat (Int.tmod ((x25 : Int) * (if wd c < 0 then 0 else wd c)) 64)) (IntKind.bits .u64))))).toNat)))))) ∧ ((decide ((0 : Int) < (if wd c < 0 then 0 else wd c))) = false → (InR ((x25 : Int) + 1)) ∧ (N0 (head60_0 c ns ((x25 : Int) + 1) re_8_0)))))))) ∧ ((decide ((x25 : Int) < (ns.length : Int))) = false → (Q .ret (⟨[(4, .c (.slice (U := U) .u64 re_8_0 (.own (.e 4 0)))), (5, .c (.bool true))], [], []⟩ : LSt U))))) :
    A60 [1, 1, 1, 1, 0, 1, 0, 0] (head60_0 c ns x25 re_8_0) (AExit.then N0 (AExit.inBlock 0 (S60 [1, 1, 1, 1, 1] Q))) :=
  Eq.mpr (by kernel_rfl) (h _ rfl _ rfl)
def Body60 (c : Int) (ns : List Int)  : Prop := awp cfg (knowM (know60)) (drawOk cfg (knowM (know60))) Try.f60.ntmps lv60 (cd Try.f60 []) (entry (args60.can (c, ns, ())) []) (EndsQ cfg Try.f60.ntmps Try.f60.results.toList (res60 (c, ns, ())) [])
theorem make60 (c88 : Contract Try.prog cfg 88 spec88) (c87 : Contract Try.prog cfg 87 spec87) (c89 : Contract Try.prog cfg 89 spec89) (hb : ∀ (c : Int) (ns : List Int) (_ : Unit), pre60 (c, ns, ()) → Body60 c ns) : Contract Try.prog cfg 60 spec60 :=
  contract_flatM (l := [(88, spec88), (87, spec87), (89, spec89)]) cfgOk rfl (⟨c88, c87, c89, trivial⟩) lv60 Try.func60 rfl rfl 2 (fun _ => rfl) (by decide) (fun ⟨c, ns, _⟩ => hb c ns ())
end Go.AM.Ytcljdbpmjdgooaa

namespace Go.AM.Ytcljdbpmjdgooaa
open Go.AM Go.Proofs
theorem room_cases {c n : Int} (h0 : 0 ≤ n) (h1 : n ≤ 1099511627776) : 0 ≤ roomW c n ∧ roomW c n ≤ 1099511627776 := by
  unfold roomW
  split
  · omega
  · rcases wd_div c with e | e | e | e | e | e
    · omega
    all_goals (rw [e]; omega)
theorem c87 : Contract Try.prog cfg 87 spec87 := by
  refine make87 c88 ?_
  intro c n _ _
  refine vc87 _ _ _ ?_
  (simp only [vcT, vcS])
  refine ⟨trivial, fun h => ends_int rfl ?_, fun h => ?_⟩
  · show (0 : Int) = roomW c n
    unfold roomW
    rw [if_pos (by omega)]
  · rw [if_neg (show ¬ wd c < 0 by omega)]
    have hb : 0 ≤ n * wd c ∧ n * wd c ≤ 70368744177664 := by
      rcases wd_cases c with e | e | e | e | e | e | e
      · omega
      all_goals (rw [e]; omega)
    have hq : Int.tdiv (n * wd c + 63) 64 = (n * wd c + 63) / 64 := Int.tdiv_eq_ediv_of_nonneg (by omega)
    rw [hq, wrap_i64 (n := (n * wd c + 63) / 64) (by omega) (by omega)]
    refine ⟨by ((unfold InR; omega)), by ((unfold InR; omega)), by decide, ends_int rfl ?_⟩
    show _ = roomW c n
    unfold roomW
    by_cases h0 : wd c < 1
    · rw [if_pos (.inl h0), show wd c = 0 by omega]; simp
    · rw [if_neg (by omega)]
theorem putR_no {c : Int} {ns : List Int} (h : fitsA c ns = false) : putR c ns = [] := by unfold putR; rw [h]; rfl
theorem putR_yes {c : Int} {ns : List Int} (h : fitsA c ns = true) : putR c ns = putW c ns := by unfold putR; rw [h]; rfl
theorem fitsA_neg {c : Int} {ns : List Int} (h : wd c < 0) : fitsA c ns = false := by
  unfold fitsA
  rw [decide_eq_false (by omega)]; rfl
theorem fitsA_bad {c : Int} {ns : List Int} {i : Nat} (hi : i < ns.length) (h : fits c (ns.getD i 0) = false) : fitsA c ns = false := by
  cases e : fitsA c ns with
  | false => rfl
  | true => rw [fitsA_get e hi] at h; cases h
theorem fitsA_all {c : Int} {ns : List Int} (h0 : 0 ≤ wd c) (h : ∀ i, i < ns.length → fits c (ns.getD i 0) = true) : fitsA c ns = true := by
  unfold fitsA
  rw [Bool.and_eq_true, List.all_eq_true]
  refine ⟨decide_eq_true h0, fun x hx => ?_⟩
  obtain ⟨i, hi, rfl⟩ := List.getElem_of_mem hx
  have := h i hi
  rwa [List.getD_eq_getElem?_getD, List.getElem?_eq_getElem hi] at this
theorem putN_okW {c : Int} {ns : List Int} (hn : okW ns) (hl : (ns.length : Int) ≤ 1099511627776) {i : Int} (h0 : 0 ≤ i) (h1 : i < ns.length) (hf : ∀ j : Nat, (j : Int) < i → fits c (ns.getD j 0) = true) (hw : 1 ≤ wd c) : PutI c (putN c ns i) i := by
  have := putN_inv hw hn hl i.toNat (by omega) fun j hj => hf j (by omega)
  rwa [show ((i.toNat : Nat) : Int) = i by omega] at this
theorem or_sum {x y : Int} {a : Nat} (hx : 0 ≤ x) (hx' : x < 2 ^ a) (hy : 0 ≤ y) (hs : x + y * 2 ^ a < 18446744073709551616) :
    IntKind.wrap .u64 (BitVec.ofInt (IntKind.bits .u64) x ||| BitVec.ofInt (IntKind.bits .u64) (y * 2 ^ a)).toNat = x + y * 2 ^ a := by
  have hp := pow2_pos a
  have h1 : 0 ≤ y * 2 ^ a := Int.mul_nonneg hy (Int.le_of_lt hp)
  have e : ∀ z : Int, 0 ≤ z → z < 18446744073709551616 → (BitVec.ofInt (IntKind.bits .u64) z).toNat = z.toNat := by
    intro z z0 z1
    simp [IntKind.bits]
    omega
  rw [BitVec.toNat_or, e x hx (by omega), e _ h1 (by omega)]
  obtain ⟨m, rfl⟩ := Int.eq_ofNat_of_zero_le hx
  obtain ⟨n, rfl⟩ := Int.eq_ofNat_of_zero_le hy
  have hpn : (2 : Int) ^ a = ((2 ^ a : Nat) : Int) := by simp
  rw [hpn] at hx' hs ⊢
  have hm : m < 2 ^ a := by omega
  have hor : m ||| n * 2 ^ a = m + n * 2 ^ a := by
    have h := Nat.two_pow_add_eq_or_of_lt hm n
    rw [Nat.or_comm, Nat.mul_comm n, ← h, Nat.add_comm]
  rw [← Int.natCast_mul, Int.toNat_natCast, Int.toNat_natCast, hor, wrap_u64 (by omega) (by omega)]
  push_cast
  rfl
theorem c60 : Contract Try.prog cfg 60 spec60 := by
  refine make60 c88 c87 c89 ?_
  intro c ns _ hp
  obtain ⟨hn, hl⟩ := hp
  dsimp only at hn hl
  have no : fitsA c ns = false → EndsQ cfg Try.f60.ntmps Try.f60.results.toList (res60 (c, ns, ())) [] .ret (⟨[(4, .c (.nils)), (5, .c (.bool false))], [], []⟩ : LSt U) := by
    intro h
    refine ends_eq (r' := .tup [(false, [.slice (U := U) .u64 [] .unk]), (false, [.bool false])]) ?_ (by (repeat' (first | exact trivial | exact rfl | apply And.intro)))
    simp only [res60]
    rw [h, putR_no h]
  refine vc60 _ _ _ ?_
  (simp only [vcT, vcS])
  have hrm := room_cases (c := c) (n := ns.length) (by omega) (by omega)
  refine ⟨trivial, fun h => no (fitsA_neg (by omega)), fun hc => ⟨trivial, ⟨hrm.1, by omega, by omega⟩, ?_⟩⟩
  refine loop_rule (ι := Int) (fun p => head60_0 c ns p (putN c ns p)) (fun p => 0 ≤ p ∧ p ≤ ns.length ∧ ∀ j : Nat, (j : Int) < p → fits c (ns.getD j 0) = true) (fun p => ((ns.length : Int) - p).toNat) 0 (by simp only [putN_zero]) ⟨by omega, by omega, fun j hj => by omega⟩ ?_
  rintro i ⟨h1, h2, h3⟩
  refine vc60_l0 _ _ _ _ _ _ ?_
  rintro y1 hy1 y2 hy2
  rw [if_neg (show ¬ wd c < 0 by omega)] at hy2 ⊢
  (simp only [vcT, vcS])
  refine ⟨fun hi => ⟨⟨h1, hi⟩, by rw [hy1]; exact getD_word hn _, fun hb => no (fitsA_bad (i := i.toNat) (by omega) (by rw [← hy1]; exact hb)), fun hb => ?_⟩, fun hi => ?_⟩
  · have hx := getD_word hn i.toNat
    rw [← hy1] at hx
    have hf := fits_lt hb
    have hin : 0 ≤ i * wd c ∧ i * wd c ≤ 70368744177664 := by
      rcases wd_cases c with e | e | e | e | e | e | e
      · omega
      all_goals (rw [e]; omega)
    have hm : Int.tmod (i * wd c) 64 = i * wd c % 64 := Int.tmod_eq_emod_of_nonneg hin.1
    rw [Int.tdiv_eq_ediv_of_nonneg hin.1] at hy2
    have hstep : putN c ns (i + 1) = putS c (putN c ns i) i y1 := by rw [hy1]; exact putN_succ c ns h1 hi
    have hfin : 0 ≤ i + 1 ∧ i + 1 ≤ ns.length ∧ ∀ j : Nat, (j : Int) < i + 1 → fits c (ns.getD j 0) = true := by
      refine ⟨by omega, by omega, fun j hj => ?_⟩
      by_cases hji : (j : Int) < i
      · exact h3 j hji
      · rw [show j = i.toNat by omega, ← hy1]; exact hb
    refine ⟨fun hw => ?_, fun hw => ?_⟩
    · obtain ⟨a0, a1, a2, a3⟩ := wd_at (c := c) (i := i) (by omega) (by omega) (by omega)
      obtain ⟨r1, r2⟩ := room_at (c := c) (n := ns.length) (i := i) (by omega) h1 hi (by omega)
      have hI := putN_okW hn (by omega) h1 hi h3 (by omega)
      have hu := used_at (c := c) (i := i) (by omega) h1 (by omega)
      have hq := hI (i * wd c / 64).toNat
      rw [hu.1] at hq
      have hs := put_num hq.1 hq.2 hx.1 hf.2
      have hp := pow_le_pow (show (i * wd c % 64).toNat + (wd c).toNat ≤ 64 by omega)
      have h64 : (2 : Int) ^ 64 = 18446744073709551616 := rfl
      have hwy : IntKind.wrap .i64 y2 = i * wd c / 64 := by rw [hy2, wrap_i64 (by omega) (by omega)]
      have hmin : min (i * wd c % 64).toNat (IntKind.bits .u64) = (i * wd c % 64).toNat := by simp [IntKind.bits]; omega
      rw [hm, hwy, hmin, wrap_u64 (n := y1 * 2 ^ (i * wd c % 64).toNat) hs.2.2 (by omega), or_sum hq.1 hq.2 hx.1 (by omega)]
      refine ⟨by ((unfold InR; omega)), by decide, ⟨by omega, by rw [putN_len]; omega⟩, by ((unfold InR; omega)), by decide, by omega, ⟨by omega, by rw [putN_len]; omega⟩, by omega, by ((unfold InR; omega)), i + 1, ?_, hfin, by omega⟩
      rw [hstep]
      unfold putS
      rw [if_neg (by omega)]
    · refine ⟨by ((unfold InR; omega)), i + 1, ?_, hfin, by omega⟩
      rw [hstep]
      unfold putS
      rw [if_pos (by omega)]
  · have hall : fitsA c ns = true := fitsA_all (by omega) fun j hj => h3 j (by omega)
    have e : i = ns.length := by omega
    subst e
    rw [putN_all]
    refine ends_eq (r' := .tup [(false, [.slice (U := U) .u64 (putW c ns) .unk]), (false, [.bool true])]) ?_ (by (repeat' (first | exact trivial | exact rfl | apply And.intro)))
    simp only [res60]
    rw [hall, putR_yes hall]
end Go.AM.Ytcljdbpmjdgooaa

namespace Go.AM.Ytcljdbpmjdgooaa
open Go.AM Go.Proofs
def args74 : ArgL (Tree × Unit) := (.cons (aEl .tree) .nil)
def pre74 (a : Tree × Unit) : Prop := mass a.1 ≤ 1000000
noncomputable def res74 (a : Tree × Unit) : V U := .tup [(false, [.int .i64 (frW (Tree.kids a.1) : Int)]), (false, [.int .i64 (frK (Tree.kids a.1) : Int)])]
noncomputable def spec74 : Fs U := fs args74 (fun a => [pre74 a]) res74
def args98 : ArgL (Int × Unit) := (.cons (aInt .i64) .nil)
def pre98 (a : Int × Unit) : Prop := True
noncomputable def res98 (a : Int × Unit) : V U := .c (.bool (decide (-536870912 ≤ a.1 ∧ a.1 < 536870912)))
noncomputable def spec98 : Fs U := fs args98 (fun a => [pre98 a]) res98
def args100 : ArgL (Int × Int × Unit) := (.cons (aInt .i64) (.cons (aInt .i64) .nil))
def pre100 (a : Int × Int × Unit) : Prop := 0 ≤ a.2.1 ∧ a.2.1 < 4
noncomputable def res100 (a : Int × Int × Unit) : V U := .c (.int .u64 (4 * (a.1 % 1073741824) + a.2.1))
noncomputable def spec100 : Fs U := fs args100 (fun a => [pre100 a]) res100
def args75 : ArgL (Ptr × Unit) := (.cons (aEl .ptr) .nil)
def pre75 (a : Ptr × Unit) : Prop := Ptr.kind a.1 = 1 ∨ Ptr.kind a.1 = 2
noncomputable def res75 (a : Ptr × Unit) : V U := .tup [(false, [.int .u64 (encW a.1)]), (false, [.bool (eqP (decP (encW a.1)) a.1 && !decide (Ptr.kind a.1 = 4))])]
noncomputable def spec75 : Fs U := fs args75 (fun a => [pre75 a]) res75
noncomputable def know74 : List (FuncId × Fs U) := []
def lv74 : Lives U := fun i => match i with
  | 0 => ([(1, [])], [((.loc 1), [])])
  | 1 => ([(1, []), (4, []), (5, [])], [((.loc 1), [])])
  | 2 => ([(4, []), (5, []), (9, []), (10, []), (11, [])], [])
  | 3 => ([(4, []), (5, []), (9, []), (10, []), (11, []), (12, [])], [])
  | 4 => ([(4, []), (5, []), (7, []), (9, []), (10, []), (11, [])], [((.loc 7), [])])
  | 5 => ([(4, []), (5, []), (9, []), (10, []), (11, [])], [])
  | 6 => ([(4, []), (5, []), (9, []), (10, []), (11, [])], [])
  | 7 => ([(2, []), (3, [])], [])
  | _ => ([], [])
noncomputable def head74_0 (t : Tree) (x4 : Int) (x5 : Int) (x11 : Int) : LSt U := (⟨[(4, .c (.int .i64 x4)), (5, .c (.int .i64 x5)), (9, .c (.slice (U := U) .tree (Tree.kids t) .unk)), (10, .c (.int .i64 ((Tree.kids t).length : Int))), (11, .c (.int .i64 x11))], [], []⟩ : LSt U)
noncomputable abbrev A74 (p : List Nat) := awp cfg (know know74) (drawOk cfg (know know74)) Try.f74.ntmps lv74 (cd Try.f74 p)
noncomputable abbrev S74 (p : List Nat) := seqK cfg (know know74) (drawOk cfg (know know74)) Try.f74.ntmps lv74 (cd Try.f74 p)
theorem vc74 (t : Tree) (Q : AExit → LSt U → Prop) (h : (((LoopWp (A74 [1, 1, 0, 1, 0, 0]) (head74_0 t 0 0 0) (AExit.inBlock 0 (S74 [1, 1, 1] Q)))))) :
    A74 [] (⟨[(0, .agg [.int .i64 (Tree.kind t), .slice (U := U) .u64 (Tree.words t) .unk, .slice (U := U) .tree (Tree.kids t) .unk])], [], []⟩ : LSt U) Q :=
  (Eq.mpr (by kernel_rfl) h :)
theorem vc74_l0 (t : Tree) (x4 : Int) (x5 : Int) (x11 : Int) (N0 : LSt U → Prop) (Q : AExit → LSt U → Prop) (h : (((decide ((x11 : Int) < ((Tree.kids t).length : Int))) = true → ((0 : Int) ≤ x11 ∧ x11 < ((Tree.kids t).length : Int)) ∧ (((InR ((x11 : Int) + 1)) ∧ (N0 (head74_0 t (if (x4 : Int) < ((Tree.words (List.getD (Tree.kids t) (Int.toNat x11) Tree.nil)).length : Int) then ((Tree.words (List.getD (Tree.kids t) (Int.toNat x11) Tree.nil)).length : Int) else x4) (if (x5 : Int) < ((Tree.kids (List.getD (Tree.kids t) (Int.toNat x11) Tree.nil)).length : Int) then ((Tree.kids (List.getD (Tree.kids t) (Int.toNat x11) Tree.nil)).length : Int) else x5) ((x11 : Int) + 1)))))) ∧ ((decide ((x11 : Int) < ((Tree.kids t).length : Int))) = false → (Q .ret (⟨[(2, .c (.int .i64 x4)), (3, .c (.int .i64 x5))], [], []⟩ : LSt U))))) :
    A74 [1, 1, 0, 1, 0, 0] (head74_0 t x4 x5 x11) (AExit.then N0 (AExit.inBlock 0 (S74 [1, 1, 1] Q))) :=
  (Eq.mpr (by kernel_rfl) h :)
abbrev Body74 (t : Tree)  : Prop := awp cfg (know (know74)) (drawOk cfg (know (know74))) Try.f74.ntmps lv74 (cd Try.f74 []) (entry (args74.can (t, ())) []) (EndsQ cfg Try.f74.ntmps Try.f74.results.toList (res74 (t, ())) [])
theorem make74 (hb : ∀ (t : Tree) (_ : Unit), pre74 (t, ()) → Body74 t) : Contract Try.prog cfg 74 spec74 :=
  contract_flat (l := []) cfgOk rfl (trivial) lv74 Try.func74 rfl rfl 1 (fun _ => rfl) (by decide) (fun ⟨t, _⟩ => hb t ())
noncomputable def know98 : List (FuncId × Fs U) := []
def lv98 : Lives U := fun i => match i with
  | 0 => ([(0, [])], [])
  | 1 => ([(2, [])], [])
  | _ => ([], [])
noncomputable abbrev A98 (p : List Nat) := awp cfg (know know98) (drawOk cfg (know know98)) Try.f98.ntmps lv98 (cd Try.f98 p)
theorem vc98 (n : Int) (Q : AExit → LSt U → Prop) (h : ((Tr ((decide (((-536870912) : Int) ≤ n)) = true)) ∧ ((Tr ((decide (((-536870912) : Int) ≤ n)) = true))) ∧ (Q .ret (⟨[(2, .c (.bool (bif (decide (((-536870912) : Int) ≤ n)) then (decide ((n : Int) < 536870912)) else false)))], [], []⟩ : LSt U)))) :
    A98 [] (⟨[(0, .c (.int .i64 n))], [], []⟩ : LSt U) Q :=
  (Eq.mpr (by kernel_rfl) h :)
abbrev Body98 (n : Int)  : Prop := awp cfg (know (know98)) (drawOk cfg (know (know98))) Try.f98.ntmps lv98 (cd Try.f98 []) (entry (args98.can (n, ())) []) (EndsQ cfg Try.f98.ntmps Try.f98.results.toList (res98 (n, ())) [])
theorem make98 (hb : ∀ (n : Int) (_ : Unit), pre98 (n, ()) → Body98 n) : Contract Try.prog cfg 98 spec98 :=
  contract_flat (l := []) cfgOk rfl (trivial) lv98 Try.func98 rfl rfl 1 (fun _ => rfl) (by decide) (fun ⟨n, _⟩ => hb n ())
noncomputable def know100 : List (FuncId × Fs U) := []
def lv100 : Lives U := fun i => match i with
  | 0 => ([(0, []), (1, [])], [])
  | 1 => ([(4, [])], [])
  | _ => ([], [])
noncomputable abbrev A100 (p : List Nat) := awp cfg (know know100) (drawOk cfg (know know100)) Try.f100.ntmps lv100 (cd Try.f100 p)
theorem vc100 (off : Int) (k : Int) (Q : AExit → LSt U → Prop) (h : (((0 : Int) ≤ 2) ∧ (Q .ret (⟨[(4, .c (.int .u64 (IntKind.wrap .u64 (IntKind.wrap .u32 (BitVec.ofInt (IntKind.bits .u32) (IntKind.wrap .u32 (((IntKind.wrap .u32 off) : Int) * 2 ^ (min (Int.toNat 2) (IntKind.bits .u32)))) ||| BitVec.ofInt (IntKind.bits .u32) (IntKind.wrap .u32 k)).toNat))))], [], []⟩ : LSt U)))) :
    A100 [] (⟨[(0, .c (.int .i64 off)), (1, .c (.int .i64 k))], [], []⟩ : LSt U) Q :=
  (Eq.mpr (by kernel_rfl) h :)
abbrev Body100 (off : Int) (k : Int)  : Prop := awp cfg (know (know100)) (drawOk cfg (know (know100))) Try.f100.ntmps lv100 (cd Try.f100 []) (entry (args100.can (off, k, ())) []) (EndsQ cfg Try.f100.ntmps Try.f100.results.toList (res100 (off, k, ())) [])
theorem make100 (hb : ∀ (off : Int) (k : Int) (_ : Unit), pre100 (off, k, ()) → Body100 off k) : Contract Try.prog cfg 100 spec100 :=
  contract_flat (l := []) cfgOk rfl (trivial) lv100 Try.func100 rfl rfl 2 (fun _ => rfl) (by decide) (fun ⟨off, k, _⟩ => hb off k ())
noncomputable def know75 : List (FuncId × Fs U) := [(98, spec98), (99, spec99), (100, spec100), (101, spec101)]
def lv75 : Lives U := fun i => match i with
  | 0 => ([(1, [])], [((.loc 1), [])])
  | 1 => ([(1, []), (4, [])], [((.loc 1), [])])
  | 2 => ([(1, []), (4, []), (6, [])], [((.loc 1), [])])
  | 3 => ([(1, []), (4, []), (6, []), (7, [])], [((.loc 1), [])])
  | 4 => ([(1, []), (4, []), (21, []), (49, []), (63, []), (72, []), (84, [])], [((.loc 1), [])])
  | 5 => ([(1, []), (4, []), (21, []), (49, []), (63, []), (72, []), (84, [])], [((.loc 1), [])])
  | 6 => ([(1, []), (4, []), (6, []), (35, [])], [((.loc 1), [])])
  | 7 => ([(1, []), (4, []), (21, []), (49, []), (63, []), (72, []), (84, [])], [((.loc 1), [])])
  | 8 => ([(1, []), (4, []), (21, []), (49, []), (63, []), (72, []), (84, [])], [((.loc 1), [])])
  | 9 => ([(1, []), (4, []), (21, []), (49, []), (63, []), (72, []), (84, [])], [((.loc 1), [])])
  | 10 => ([(1, []), (4, []), (21, []), (49, []), (63, []), (72, []), (84, [])], [((.loc 1), [])])
  | 11 => ([(1, []), (4, [])], [((.loc 1), [])])
  | 12 => ([(1, []), (4, []), (21, []), (49, []), (63, []), (72, []), (84, [])], [((.loc 1), [])])
  | 13 => ([(1, []), (4, []), (21, []), (49, []), (63, []), (72, []), (84, [])], [((.loc 1), [])])
  | 14 => ([(2, []), (3, [])], [])
  | _ => ([], [])
noncomputable def head75_0 (p : Ptr) (x4 : Int) (v21 : V U) (v49 : V U) (v84 : V U) (v72 : V U) (v63 : V U) : LSt U := (⟨[(1, .ptr (.loc 1) 0), (4, .c (.int .u64 x4)), (21, v21), (49, v49), (63, v63), (72, v72), (84, v84)], [((.loc 1), [.int .i64 (Ptr.kind p), .int .i64 (Ptr.off p), .int .i64 (Ptr.data p), .int .i64 (Ptr.ptrs p), .int .i64 (Ptr.code p), .int .i64 (Ptr.count p), .int .i64 (Ptr.segment p), .bool (Ptr.double p)])], []⟩ : LSt U)
noncomputable abbrev A75 (p : List Nat) := awp cfg (know know75) (drawOk cfg (know know75)) Try.f75.ntmps lv75 (cd Try.f75 p)
theorem vc75 (p : Ptr) (Q : AExit → LSt U → Prop) (h : ((((((((Ptr.kind p) : Int) == 1) = true → (pre98 ((Ptr.off p), ())) ∧ (Tr ((decide (-536870912 ≤ (Ptr.off p) ∧ (Ptr.off p) < 536870912)) = true)) ∧ (Tr ((decide (-536870912 ≤ (Ptr.off p) ∧ (Ptr.off p) < 536870912)) = true)) ∧ ((decide (-536870912 ≤ (Ptr.off p) ∧ (Ptr.off p) < 536870912)) = true → pre99 ((Ptr.data p), 65535, ())) ∧ ((Tr ((decide (-536870912 ≤ (Ptr.off p) ∧ (Ptr.off p) < 536870912)) = true))) ∧ (Tr ((bif (decide (-536870912 ≤ (Ptr.off p) ∧ (Ptr.off p) < 536870912)) then (decide (0 ≤ (Ptr.data p) ∧ (Ptr.data p) ≤ 65535)) else false) = true)) ∧ (Tr ((bif (decide (-536870912 ≤ (Ptr.off p) ∧ (Ptr.off p) < 536870912)) then (decide (0 ≤ (Ptr.data p) ∧ (Ptr.data p) ≤ 65535)) else false) = true)) ∧ ((bif (decide (-536870912 ≤ (Ptr.off p) ∧ (Ptr.off p) < 536870912)) then (decide (0 ≤ (Ptr.data p) ∧ (Ptr.data p) ≤ 65535)) else false) = true → pre99 ((Ptr.ptrs p), 65535, ())) ∧ ((Tr ((bif (decide (-536870912 ≤ (Ptr.off p) ∧ (Ptr.off p) < 536870912)) then (decide (0 ≤ (Ptr.data p) ∧ (Ptr.data p) ≤ 65535)) else false) = true))) ∧ (((bif (bif (decide (-536870912 ≤ (Ptr.off p) ∧ (Ptr.off p) < 536870912)) then (decide (0 ≤ (Ptr.data p) ∧ (Ptr.data p) ≤ 65535)) else false) then (decide (0 ≤ (Ptr.ptrs p) ∧ (Ptr.ptrs p) ≤ 65535)) else false) = true → (pre100 ((Ptr.off p), 0, ())) ∧ ((0 : Int) ≤ 32) ∧ ((0 : Int) ≤ 48) ∧ (A75 [1, 1, 1] (head75_0 p (IntKind.wrap .u64 (BitVec.ofInt (IntKind.bits .u64) (IntKind.wrap .u64 (BitVec.ofInt (IntKind.bits .u64) (4 * ((Ptr.off p) % 1073741824) + 0) ||| BitVec.ofInt (IntKind.bits .u64) (IntKind.wrap .u64 (((IntKind.wrap .u64 (Ptr.data p)) : Int) * 2 ^ (min (Int.toNat 32) (IntKind.bits .u64))))).toNat) ||| BitVec.ofInt (IntKind.bits .u64) (IntKind.wrap .u64 (((IntKind.wrap .u64 (Ptr.ptrs p)) : Int) * 2 ^ (min (Int.toNat 48) (IntKind.bits .u64))))).toNat) (.c (.bool (bif (bif (decide (-536870912 ≤ (Ptr.off p) ∧ (Ptr.off p) < 536870912)) then (decide (0 ≤ (Ptr.data p) ∧ (Ptr.data p) ≤ 65535)) else false) then (decide (0 ≤ (Ptr.ptrs p) ∧ (Ptr.ptrs p) ≤ 65535)) else false))) .junk .junk .junk .junk) Q)) ∧ ((bif (bif (decide (-536870912 ≤ (Ptr.off p) ∧ (Ptr.off p) < 536870912)) then (decide (0 ≤ (Ptr.data p) ∧ (Ptr.data p) ≤ 65535)) else false) then (decide (0 ≤ (Ptr.ptrs p) ∧ (Ptr.ptrs p) ≤ 65535)) else false) = false → A75 [1, 1, 1] (head75_0 p 0 (.c (.bool (bif (bif (decide (-536870912 ≤ (Ptr.off p) ∧ (Ptr.off p) < 536870912)) then (decide (0 ≤ (Ptr.data p) ∧ (Ptr.data p) ≤ 65535)) else false) then (decide (0 ≤ (Ptr.ptrs p) ∧ (Ptr.ptrs p) ≤ 65535)) else false))) .junk .junk .junk .junk) Q))) ∧ ((((Ptr.kind p) : Int) == 1) = false → (((((Ptr.kind p) : Int) == 2) = true → (pre98 ((Ptr.off p), ())) ∧ (Tr ((decide (-536870912 ≤ (Ptr.off p) ∧ (Ptr.off p) < 536870912)) = true)) ∧ (Tr ((decide (-536870912 ≤ (Ptr.off p) ∧ (Ptr.off p) < 536870912)) = true)) ∧ ((decide (-536870912 ≤ (Ptr.off p) ∧ (Ptr.off p) < 536870912)) = true → pre99 ((Ptr.code p), 7, ())) ∧ ((Tr ((decide (-536870912 ≤ (Ptr.off p) ∧ (Ptr.off p) < 536870912)) = true))) ∧ (Tr ((bif (decide (-536870912 ≤ (Ptr.off p) ∧ (Ptr.off p) < 536870912)) then (decide (0 ≤ (Ptr.code p) ∧ (Ptr.code p) ≤ 7)) else false) = true)) ∧ (Tr ((bif (decide (-536870912 ≤ (Ptr.off p) ∧ (Ptr.off p) < 536870912)) then (decide (0 ≤ (Ptr.code p) ∧ (Ptr.code p) ≤ 7)) else false) = true)) ∧ ((bif (decide (-536870912 ≤ (Ptr.off p) ∧ (Ptr.off p) < 536870912)) then (decide (0 ≤ (Ptr.code p) ∧ (Ptr.code p) ≤ 7)) else false) = true → pre99 ((Ptr.count p), 536870911, ())) ∧ ((Tr ((bif (decide (-536870912 ≤ (Ptr.off p) ∧ (Ptr.off p) < 536870912)) then (decide (0 ≤ (Ptr.code p) ∧ (Ptr.code p) ≤ 7)) else false) = true))) ∧ (((bif (bif (decide (-536870912 ≤ (Ptr.off p) ∧ (Ptr.off p) < 536870912)) then (decide (0 ≤ (Ptr.code p) ∧ (Ptr.code p) ≤ 7)) else false) then (decide (0 ≤ (Ptr.count p) ∧ (Ptr.count p) ≤ 536870911)) else false) = true → (pre100 ((Ptr.off p), 1, ())) ∧ ((0 : Int) ≤ 32) ∧ ((0 : Int) ≤ 35) ∧ (A75 [1, 1, 1] (head75_0 p (IntKind.wrap .u64 (BitVec.ofInt (IntKind.bits .u64) (IntKind.wrap .u64 (BitVec.ofInt (IntKind.bits .u64) (4 * ((Ptr.off p) % 1073741824) + 1) ||| BitVec.ofInt (IntKind.bits .u64) (IntKind.wrap .u64 (((IntKind.wrap .u64 (Ptr.code p)) : Int) * 2 ^ (min (Int.toNat 32) (IntKind.bits .u64))))).toNat) ||| BitVec.ofInt (IntKind.bits .u64) (IntKind.wrap .u64 (((IntKind.wrap .u64 (Ptr.count p)) : Int) * 2 ^ (min (Int.toNat 35) (IntKind.bits .u64))))).toNat) .junk (.c (.bool (bif (bif (decide (-536870912 ≤ (Ptr.off p) ∧ (Ptr.off p) < 536870912)) then (decide (0 ≤ (Ptr.code p) ∧ (Ptr.code p) ≤ 7)) else false) then (decide (0 ≤ (Ptr.count p) ∧ (Ptr.count p) ≤ 536870911)) else false))) .junk .junk .junk) Q)) ∧ ((bif (bif (decide (-536870912 ≤ (Ptr.off p) ∧ (Ptr.off p) < 536870912)) then (decide (0 ≤ (Ptr.code p) ∧ (Ptr.code p) ≤ 7)) else false) then (decide (0 ≤ (Ptr.count p) ∧ (Ptr.count p) ≤ 536870911)) else false) = false → A75 [1, 1, 1] (head75_0 p 0 .junk (.c (.bool (bif (bif (decide (-536870912 ≤ (Ptr.off p) ∧ (Ptr.off p) < 536870912)) then (decide (0 ≤ (Ptr.code p) ∧ (Ptr.code p) ≤ 7)) else false) then (decide (0 ≤ (Ptr.count p) ∧ (Ptr.count p) ≤ 536870911)) else false))) .junk .junk .junk) Q))) ∧ ((((Ptr.kind p) : Int) == 2) = false → (((((Ptr.kind p) : Int) == 3) = true → (pre99 ((Ptr.off p), 536870911, ())) ∧ (Tr ((decide (0 ≤ (Ptr.off p) ∧ (Ptr.off p) ≤ 536870911)) = true)) ∧ (Tr ((decide (0 ≤ (Ptr.off p) ∧ (Ptr.off p) ≤ 536870911)) = true)) ∧ ((decide (0 ≤ (Ptr.off p) ∧ (Ptr.off p) ≤ 536870911)) = true → pre99 ((Ptr.segment p), 4294967295, ())) ∧ ((Tr ((decide (0 ≤ (Ptr.off p) ∧ (Ptr.off p) ≤ 536870911)) = true))) ∧ (((bif (decide (0 ≤ (Ptr.off p) ∧ (Ptr.off p) ≤ 536870911)) then (decide (0 ≤ (Ptr.segment p) ∧ (Ptr.segment p) ≤ 4294967295)) else false) = true → ((0 : Int) ≤ 3) ∧ ((0 : Int) ≤ 32) ∧ ((((Ptr.double p) = true → (A75 [1, 1, 1] (head75_0 p (IntKind.wrap .u64 (BitVec.ofInt (IntKind.bits .u64) (IntKind.wrap .u64 (BitVec.ofInt (IntKind.bits .u64) (IntKind.wrap .u64 (BitVec.ofInt (IntKind.bits .u64) (IntKind.wrap .u64 (((IntKind.wrap .u64 (Ptr.off p)) : Int) * 2 ^ (min (Int.toNat 3) (IntKind.bits .u64)))) ||| BitVec.ofInt (IntKind.bits .u64) 2).toNat) ||| BitVec.ofInt (IntKind.bits .u64) (IntKind.wrap .u64 (((IntKind.wrap .u64 (Ptr.segment p)) : Int) * 2 ^ (min (Int.toNat 32) (IntKind.bits .u64))))).toNat) ||| BitVec.ofInt (IntKind.bits .u64) 4).toNat) .junk .junk (.c (.bool (Ptr.double p))) .junk .junk) Q)) ∧ ((Ptr.double p) = false → A75 [1, 1, 1] (head75_0 p (IntKind.wrap .u64 (BitVec.ofInt (IntKind.bits .u64) (IntKind.wrap .u64 (BitVec.ofInt (IntKind.bits .u64) (IntKind.wrap .u64 (((IntKind.wrap .u64 (Ptr.off p)) : Int) * 2 ^ (min (Int.toNat 3) (IntKind.bits .u64)))) ||| BitVec.ofInt (IntKind.bits .u64) 2).toNat) ||| BitVec.ofInt (IntKind.bits .u64) (IntKind.wrap .u64 (((IntKind.wrap .u64 (Ptr.segment p)) : Int) * 2 ^ (min (Int.toNat 32) (IntKind.bits .u64))))).toNat) .junk .junk (.c (.bool (Ptr.double p))) .junk .junk) Q)))) ∧ ((bif (decide (0 ≤ (Ptr.off p) ∧ (Ptr.off p) ≤ 536870911)) then (decide (0 ≤ (Ptr.segment p) ∧ (Ptr.segment p) ≤ 4294967295)) else false) = false → A75 [1, 1, 1] (head75_0 p 0 .junk .junk .junk (.c (.bool (bif (decide (0 ≤ (Ptr.off p) ∧ (Ptr.off p) ≤ 536870911)) then (decide (0 ≤ (Ptr.segment p) ∧ (Ptr.segment p) ≤ 4294967295)) else false))) (.c (.bool (((Ptr.kind p) : Int) == 3)))) Q))) ∧ ((((Ptr.kind p) : Int) == 3) = false → A75 [1, 1, 1] (head75_0 p 0 .junk .junk .junk .junk (.c (.bool (((Ptr.kind p) : Int) == 3)))) Q)))))))))) :
    A75 [] (⟨[(0, .agg [.int .i64 (Ptr.kind p), .int .i64 (Ptr.off p), .int .i64 (Ptr.data p), .int .i64 (Ptr.ptrs p), .int .i64 (Ptr.code p), .int .i64 (Ptr.count p), .int .i64 (Ptr.segment p), .bool (Ptr.double p)])], [], []⟩ : LSt U) Q :=
  (Eq.mpr (by kernel_rfl) h :)
theorem vc75_c0 (p : Ptr) (x4 : Int) (v21 : V U) (v49 : V U) (v84 : V U) (v72 : V U) (v63 : V U) (Q : AExit → LSt U → Prop) (h : (pre101 (x4, ())) ∧ (Tr (((((Ptr.kind (decP x4)) : Int) == (Ptr.kind p)) && ((((Ptr.off (decP x4)) : Int) == (Ptr.off p)) && ((((Ptr.data (decP x4)) : Int) == (Ptr.data p)) && ((((Ptr.ptrs (decP x4)) : Int) == (Ptr.ptrs p)) && ((((Ptr.code (decP x4)) : Int) == (Ptr.code p)) && ((((Ptr.count (decP x4)) : Int) == (Ptr.count p)) && ((((Ptr.segment (decP x4)) : Int) == (Ptr.segment p)) && (((Ptr.double (decP x4)) == (Ptr.double p)) && true)))))))) = true)) ∧ (Tr (((((Ptr.kind (decP x4)) : Int) == (Ptr.kind p)) && ((((Ptr.off (decP x4)) : Int) == (Ptr.off p)) && ((((Ptr.data (decP x4)) : Int) == (Ptr.data p)) && ((((Ptr.ptrs (decP x4)) : Int) == (Ptr.ptrs p)) && ((((Ptr.code (decP x4)) : Int) == (Ptr.code p)) && ((((Ptr.count (decP x4)) : Int) == (Ptr.count p)) && ((((Ptr.segment (decP x4)) : Int) == (Ptr.segment p)) && (((Ptr.double (decP x4)) == (Ptr.double p)) && true)))))))) = true)) ∧ ((Tr (((((Ptr.kind (decP x4)) : Int) == (Ptr.kind p)) && ((((Ptr.off (decP x4)) : Int) == (Ptr.off p)) && ((((Ptr.data (decP x4)) : Int) == (Ptr.data p)) && ((((Ptr.ptrs (decP x4)) : Int) == (Ptr.ptrs p)) && ((((Ptr.code (decP x4)) : Int) == (Ptr.code p)) && ((((Ptr.count (decP x4)) : Int) == (Ptr.count p)) && ((((Ptr.segment (decP x4)) : Int) == (Ptr.segment p)) && (((Ptr.double (decP x4)) == (Ptr.double p)) && true)))))))) = true))) ∧ (Q .ret (⟨[(2, .c (.int .u64 x4)), (3, .c (.bool (bif ((((Ptr.kind (decP x4)) : Int) == (Ptr.kind p)) && ((((Ptr.off (decP x4)) : Int) == (Ptr.off p)) && ((((Ptr.data (decP x4)) : Int) == (Ptr.data p)) && ((((Ptr.ptrs (decP x4)) : Int) == (Ptr.ptrs p)) && ((((Ptr.code (decP x4)) : Int) == (Ptr.code p)) && ((((Ptr.count (decP x4)) : Int) == (Ptr.count p)) && ((((Ptr.segment (decP x4)) : Int) == (Ptr.segment p)) && (((Ptr.double (decP x4)) == (Ptr.double p)) && true)))))))) then (((Ptr.kind p) : Int) != 4) else false)))], [], []⟩ : LSt U))) :
    A75 [1, 1, 1] (head75_0 p x4 v21 v49 v84 v72 v63) Q :=
  (Eq.mpr (by kernel_rfl) h :)
abbrev Body75 (p : Ptr)  : Prop := awp cfg (know (know75)) (drawOk cfg (know (know75))) Try.f75.ntmps lv75 (cd Try.f75 []) (entry (args75.can (p, ())) []) (EndsQ cfg Try.f75.ntmps Try.f75.results.toList (res75 (p, ())) [])
theorem make75 (c98 : Contract Try.prog cfg 98 spec98) (c99 : Contract Try.prog cfg 99 spec99) (c100 : Contract Try.prog cfg 100 spec100) (c101 : Contract Try.prog cfg 101 spec101) (hb : ∀ (p : Ptr) (_ : Unit), pre75 (p, ()) → Body75 p) : Contract Try.prog cfg 75 spec75 :=
  contract_flat (l := [(98, spec98), (99, spec99), (100, spec100), (101, spec101)]) cfgOk rfl (⟨c98, c99, c100, c101, trivial⟩) lv75 Try.func75 rfl rfl 1 (fun _ => rfl) (by decide) (fun ⟨p, _⟩ => hb p ())
end Go.AM.Ytcljdbpmjdgooaa

namespace Go.AM.Ytcljdbpmjdgooaa
open Go.AM Go.Proofs
def args54 : ArgL (Tree × Unit) := (.cons (aEl .tree) .nil)
def pre54 (a : Tree × Unit) : Prop := mass a.1 ≤ 1000000 ∧ (∃ d, rightT a.1 d = true)
def mu54 (a : Tree × Unit) : Nat := mass a.1
noncomputable def res54 (a : Tree × Unit) : V U := .c (.int .i64 (sizeN a.1 : Int))
noncomputable def spec54 : Fs U := fs args54 (fun a => [pre54 a]) res54
def args30 : ArgL (Tree × Unit) := (.cons (aEl .tree) .nil)
def pre30 (a : Tree × Unit) : Prop := (mass a.1 ≤ 1000000) ∧ (∃ d, rightT a.1 d = true)
noncomputable def res30 (a : Tree × Unit) : V U := .c (.int .i64 (sizeN (normT a.1) : Int))
noncomputable def spec30 : Fs U := fs args30 (fun a => [pre30 a]) res30
def args32 : ArgM ((List Int × Unit) × Int × Unit) := (.obj 0 (.cons (cWr .u64 0 0) .nil) (.cons (aInt .i64) .nil))
def pre32 (a : (List Int × Unit) × Int × Unit) : Prop := (a.1.1.length ≤ 1000000) ∧ 0 ≤ a.2.1 ∧ a.2.1 ≤ 1000000
noncomputable def res32 (a : (List Int × Unit) × Int × Unit) : V U := .c (.int .i64 (a.1.1.length : Int))
noncomputable def resX32 (a : (List Int × Unit) × Int × Unit) : List (List (C U)) := [[.mref (.x 0 0)]]
noncomputable def resL32 (a : (List Int × Unit) × Int × Unit) : List (Tok × LC U) := [(.x 0 0, LC.mk (U := U) .u64 (a.1.1 ++ zs (Int.toNat a.2.1)) 0)]
noncomputable def spec32 : Fs U := fsXL args32 (fun a => [pre32 a]) res32 resX32 resL32
def args1032 : ArgM ((List Int × Unit) × Int × Unit) := (.obj 0 (.cons (cOwn .u64 0 0) .nil) (.cons (aInt .i64) .nil))
def pre1032 (a : (List Int × Unit) × Int × Unit) : Prop := (a.1.1 = []) ∧ 0 ≤ a.2.1 ∧ a.2.1 ≤ 1000000
noncomputable def res1032 (a : (List Int × Unit) × Int × Unit) : V U := .c (.int .i64 (a.1.1.length : Int))
noncomputable def resX1032 (a : (List Int × Unit) × Int × Unit) : List (List (C U)) := [[.mref (.x 0 0)]]
noncomputable def resL1032 (a : (List Int × Unit) × Int × Unit) : List (Tok × LC U) := [(.x 0 0, LC.mk (U := U) .u64 (a.1.1 ++ zs (Int.toNat a.2.1)) 0)]
noncomputable def spec1032 : Fs U := fsXL args1032 (fun a => [pre1032 a]) res1032 resX1032 resL1032
def args55 : ArgM ((List Int × Unit) × Int × Int × Ptr × Unit) := (.obj 0 (.cons (cWr .u64 0 0) .nil) (.cons (aInt .i64) (.cons (aInt .i64) (.cons (aEl .ptr) .nil))))
def pre55 (a : (List Int × Unit) × Int × Int × Ptr × Unit) : Prop := (0 ≤ a.2.1 ∧ a.2.1 < a.1.1.length ∧ a.2.1 < a.2.2.1 ∧ a.2.2.1 ≤ 1000000) ∧ pntOk a.2.2.2.1
noncomputable def res55 (a : (List Int × Unit) × Int × Int × Ptr × Unit) : V U := .c (.bool true)
noncomputable def resX55 (a : (List Int × Unit) × Int × Int × Ptr × Unit) : List (List (C U)) := [[.mref (.x 0 0)]]
noncomputable def resL55 (a : (List Int × Unit) × Int × Int × Ptr × Unit) : List (Tok × LC U) := [(.x 0 0, LC.mk (U := U) .u64 (a.1.1.set (Int.toNat a.2.1) (pntW a.2.1 a.2.2.1 a.2.2.2.1)) 0)]
noncomputable def spec55 : Fs U := fsXL args55 (fun a => [pre55 a]) res55 resX55 resL55
noncomputable def know54 (N : Nat) : List (FuncId × Fs U) := (54, fs args54 (fun a => [pre54 a, mu54 a < N]) res54) :: [(74, spec74), (87, spec87), (86, spec86)]
def lv54 : Lives U := fun i => match i with
  | 0 => ([(1, [])], [((.loc 1), [])])
  | 1 => ([(1, []), (3, [])], [((.loc 1), [])])
  | 2 => ([(1, []), (3, []), (10, [])], [((.loc 1), [])])
  | 3 => ([(1, []), (3, [])], [((.loc 1), [])])
  | 4 => ([(1, []), (3, []), (21, [])], [((.loc 1), [])])
  | 5 => ([(1, []), (3, [])], [((.loc 1), [])])
  | 6 => ([(1, []), (3, []), (28, [])], [((.loc 1), [])])
  | 7 => ([(2, [])], [])
  | 8 => ([(1, []), (3, []), (39, [])], [((.loc 1), [])])
  | 9 => ([(1, []), (4, []), (5, [])], [((.loc 1), [])])
  | 10 => ([(1, []), (3, [])], [((.loc 1), [])])
  | 11 => ([(3, []), (57, []), (58, []), (59, [])], [])
  | 12 => ([(3, []), (57, []), (58, []), (59, []), (60, [])], [])
  | 13 => ([(3, []), (7, []), (57, []), (58, []), (59, [])], [((.loc 7), [])])
  | 14 => ([(3, []), (57, []), (58, []), (59, [])], [])
  | 15 => ([(3, []), (57, []), (58, []), (59, [])], [])
  | 16 => ([(2, [])], [])
  | 17 => ([(3, []), (78, []), (79, []), (80, [])], [])
  | 18 => ([(3, []), (78, []), (79, []), (80, []), (81, [])], [])
  | 19 => ([(3, []), (9, []), (78, []), (79, []), (80, [])], [((.loc 9), [])])
  | 20 => ([(3, []), (78, []), (79, []), (80, [])], [])
  | 21 => ([(3, []), (78, []), (79, []), (80, [])], [])
  | 22 => ([(2, [])], [])
  | _ => ([], [])
noncomputable def head54_0 (t : Tree) (x3 : Int) (x80 : Int) : LSt U := (⟨[(3, .c (.int .i64 x3)), (78, .c (.slice (U := U) .tree (Tree.kids t) .unk)), (79, .c (.int .i64 ((Tree.kids t).length : Int))), (80, .c (.int .i64 x80))], [], []⟩ : LSt U)
noncomputable def head54_1 (t : Tree) (x3_a : Int) (x59_a : Int) : LSt U := (⟨[(3, .c (.int .i64 x3_a)), (57, .c (.slice (U := U) .tree (Tree.kids t) .unk)), (58, .c (.int .i64 ((Tree.kids t).length : Int))), (59, .c (.int .i64 x59_a))], [], []⟩ : LSt U)
noncomputable abbrev A54 (N : Nat) (p : List Nat) := awp cfg (know (know54 N)) (drawOk cfg (know (know54 N))) Try.f54.ntmps lv54 (cd Try.f54 p)
noncomputable abbrev S54 (N : Nat) (p : List Nat) := seqK cfg (know (know54 N)) (drawOk cfg (know (know54 N))) Try.f54.ntmps lv54 (cd Try.f54 p)
theorem vc54 (N : Nat) (t : Tree) (Q : AExit → LSt U → Prop) (h : ∀ y_1, y_1 = (t) → (((((((Tree.kind t) : Int) == 1) = true → (InR ((((Tree.words t).length : Int) : Int) + ((Tree.kids t).length : Int))) ∧ ((LoopWp (A54 N [1, 1, 1, 0, 1, 0, 0]) (head54_0 t ((((Tree.words t).length : Int) : Int) + ((Tree.kids t).length : Int)) 0) (AExit.inBlock 3 (S54 N [1, 1, 1, 1] Q))))) ∧ ((((Tree.kind t) : Int) == 1) = false → (((((Tree.kind t) : Int) == 8) = true → ((LoopWp (A54 N [1, 1, 1, 0, 1, 0, 0]) (head54_0 t ((Tree.kids t).length : Int) 0) (AExit.inBlock 3 (S54 N [1, 1, 1, 1] Q))))) ∧ ((((Tree.kind t) : Int) == 8) = false → (pre86 ((Tree.kind t), ())) ∧ (((decide (2 ≤ (Tree.kind t) ∧ (Tree.kind t) ≤ 7)) = true → (InR (((Tree.kind t) : Int) - 2)) ∧ (pre87 ((((Tree.kind t) : Int) - 2), ((Tree.kids t).length : Int), ())) ∧ (Q .ret (⟨[(2, .c (.int .i64 (roomW (((Tree.kind t) : Int) - 2) ((Tree.kids t).length : Int))))], [], []⟩ : LSt U))) ∧ ((decide (2 ≤ (Tree.kind t) ∧ (Tree.kind t) ≤ 7)) = false → (((((Tree.kind t) : Int) == 9) = true → (pre74 (y_1, ())) ∧ ((InR (((frW (Tree.kids y_1) : Int) : Int) + (frK (Tree.kids y_1) : Int))) ∧ (InR ((((Tree.kids t).length : Int) : Int) * (((frW (Tree.kids y_1) : Int) : Int) + (frK (Tree.kids y_1) : Int)))) ∧ (InR ((1 : Int) + ((((Tree.kids t).length : Int) : Int) * (((frW (Tree.kids y_1) : Int) : Int) + (frK (Tree.kids y_1) : Int))))) ∧ ((LoopWp (A54 N [1, 1, 0, 0, 1, 1, 1, 1, 1, 1, 1, 0, 1, 1, 0, 1, 0, 0]) (head54_1 t ((1 : Int) + ((((Tree.kids t).length : Int) : Int) * (((frW (Tree.kids y_1) : Int) : Int) + (frK (Tree.kids y_1) : Int)))) 0) (AExit.inBlock 1 (S54 N [1, 1, 0, 0, 1, 1, 1, 1, 1, 1, 1, 0, 1, 1, 1] (AExit.inBlock 0 (S54 N [1, 1, 1] Q)))))))) ∧ ((((Tree.kind t) : Int) == 9) = false → (LoopWp (A54 N [1, 1, 1, 0, 1, 0, 0]) (head54_0 t 0 0) (AExit.inBlock 3 (S54 N [1, 1, 1, 1] Q)))))))))))))) :
    A54 N [] (⟨[(0, .agg [.int .i64 (Tree.kind t), .slice (U := U) .u64 (Tree.words t) .unk, .slice (U := U) .tree (Tree.kids t) .unk])], [], []⟩ : LSt U) Q :=
  (Eq.mpr (by kernel_rfl) (h _ (reTree_eq _)) :)
theorem vc54_l0 (N : Nat) (t : Tree) (x3 : Int) (x80 : Int) (N0 : LSt U → Prop) (Q : AExit → LSt U → Prop) (h : (((decide ((x80 : Int) < ((Tree.kids t).length : Int))) = true → ((0 : Int) ≤ x80 ∧ x80 < ((Tree.kids t).length : Int)) ∧ ((pre54 ((Tree.mk (Tree.kind (List.getD (Tree.kids t) (Int.toNat x80) Tree.nil)) (Tree.words (List.getD (Tree.kids t) (Int.toNat x80) Tree.nil)) (Tree.kids (List.getD (Tree.kids t) (Int.toNat x80) Tree.nil))), ())) ∧ (mu54 ((Tree.mk (Tree.kind (List.getD (Tree.kids t) (Int.toNat x80) Tree.nil)) (Tree.words (List.getD (Tree.kids t) (Int.toNat x80) Tree.nil)) (Tree.kids (List.getD (Tree.kids t) (Int.toNat x80) Tree.nil))), ()) < N) ∧ (InR ((x3 : Int) + (sizeN (Tree.mk (Tree.kind (List.getD (Tree.kids t) (Int.toNat x80) Tree.nil)) (Tree.words (List.getD (Tree.kids t) (Int.toNat x80) Tree.nil)) (Tree.kids (List.getD (Tree.kids t) (Int.toNat x80) Tree.nil))) : Int))) ∧ ((InR ((x80 : Int) + 1)) ∧ (N0 (head54_0 t ((x3 : Int) + (sizeN (Tree.mk (Tree.kind (List.getD (Tree.kids t) (Int.toNat x80) Tree.nil)) (Tree.words (List.getD (Tree.kids t) (Int.toNat x80) Tree.nil)) (Tree.kids (List.getD (Tree.kids t) (Int.toNat x80) Tree.nil))) : Int)) ((x80 : Int) + 1)))))) ∧ ((decide ((x80 : Int) < ((Tree.kids t).length : Int))) = false → (Q .ret (⟨[(2, .c (.int .i64 x3))], [], []⟩ : LSt U))))) :
    A54 N [1, 1, 1, 0, 1, 0, 0] (head54_0 t x3 x80) (AExit.then N0 (AExit.inBlock 3 (S54 N [1, 1, 1, 1] Q))) :=
  (Eq.mpr (by kernel_rfl) h :)
theorem vc54_l1 (N : Nat) (t : Tree) (x3_a : Int) (x59_a : Int) (N1 : LSt U → Prop) (Q : AExit → LSt U → Prop) (h : ∀ y_1, y_1 = (List.getD (Tree.kids t) (Int.toNat x59_a) Tree.nil) → ∀ y_2, y_2 = (y_1) → (((decide ((x59_a : Int) < ((Tree.kids t).length : Int))) = true → ((0 : Int) ≤ x59_a ∧ x59_a < ((Tree.kids t).length : Int)) ∧ ((pre54 (y_2, ())) ∧ (mu54 (y_2, ()) < N) ∧ (InR (((sizeN y_2 : Int) : Int) - ((Tree.words y_1).length : Int))) ∧ (InR (((((sizeN y_2 : Int) : Int) - ((Tree.words y_1).length : Int)) : Int) - ((Tree.kids y_1).length : Int))) ∧ (InR ((x3_a : Int) + (((((sizeN y_2 : Int) : Int) - ((Tree.words y_1).length : Int)) : Int) - ((Tree.kids y_1).length : Int)))) ∧ ((InR ((x59_a : Int) + 1)) ∧ (N1 (head54_1 t ((x3_a : Int) + (((((sizeN y_2 : Int) : Int) - ((Tree.words y_1).length : Int)) : Int) - ((Tree.kids y_1).length : Int))) ((x59_a : Int) + 1)))))) ∧ ((decide ((x59_a : Int) < ((Tree.kids t).length : Int))) = false → (Q .ret (⟨[(2, .c (.int .i64 x3_a))], [], []⟩ : LSt U))))) :
    A54 N [1, 1, 0, 0, 1, 1, 1, 1, 1, 1, 1, 0, 1, 1, 0, 1, 0, 0] (head54_1 t x3_a x59_a) (AExit.then N1 (AExit.inBlock 1 (S54 N [1, 1, 0, 0, 1, 1, 1, 1, 1, 1, 1, 0, 1, 1, 1] (AExit.inBlock 0 (S54 N [1, 1, 1] Q))))) :=
  (Eq.mpr (by kernel_rfl) (h _ rfl _ (reTree_eq _)) :)
abbrev Body54 (N : Nat) (t : Tree)  : Prop := awp cfg (know (know54 N)) (drawOk cfg (know (know54 N))) Try.f54.ntmps lv54 (cd Try.f54 []) (entry (args54.can (t, ())) []) (EndsQ cfg Try.f54.ntmps Try.f54.results.toList (res54 (t, ())) [])
theorem make54 (c74 : Contract Try.prog cfg 74 spec74) (c87 : Contract Try.prog cfg 87 spec87) (c86 : Contract Try.prog cfg 86 spec86) (hb : ∀ (N : Nat) (t : Tree) (_ : Unit), pre54 (t, ()) → mu54 (t, ()) < N + 1 → Body54 N t) : Contract Try.prog cfg 54 spec54 :=
  contract_rec (μ := mu54) (l := [(74, spec74), (87, spec87), (86, spec86)]) cfgOk rfl (⟨c74, c87, c86, trivial⟩) lv54 Try.func54 rfl rfl 1 (fun _ => rfl) (by decide) (fun N ⟨t, _⟩ => hb N t ())
noncomputable def know30 : List (FuncId × Fs U) := [(24, spec24), (54, spec54)]
def lv30 : Lives U := fun i => match i with
  | 0 => ([(1, [])], [((.loc 1), [])])
  | 1 => ([(2, [])], [])
  | _ => ([], [])
noncomputable abbrev A30 (p : List Nat) := awp cfg (know know30) (drawOk cfg (know know30)) Try.f30.ntmps lv30 (cd Try.f30 p)
theorem vc30 (t : Tree) (Q : AExit → LSt U → Prop) (h : ((pre24 ((Tree.mk (Tree.kind t) (Tree.words t) (Tree.kids t)), ())) ∧ (pre54 ((Tree.mk (Tree.kind (normT (Tree.mk (Tree.kind t) (Tree.words t) (Tree.kids t)))) (Tree.words (normT (Tree.mk (Tree.kind t) (Tree.words t) (Tree.kids t)))) (Tree.kids (normT (Tree.mk (Tree.kind t) (Tree.words t) (Tree.kids t))))), ())) ∧ (Q .ret (⟨[(2, .c (.int .i64 (sizeN (Tree.mk (Tree.kind (normT (Tree.mk (Tree.kind t) (Tree.words t) (Tree.kids t)))) (Tree.words (normT (Tree.mk (Tree.kind t) (Tree.words t) (Tree.kids t)))) (Tree.kids (normT (Tree.mk (Tree.kind t) (Tree.words t) (Tree.kids t))))) : Int)))], [], []⟩ : LSt U)))) :
    A30 [] (⟨[(0, .agg [.int .i64 (Tree.kind t), .slice (U := U) .u64 (Tree.words t) .unk, .slice (U := U) .tree (Tree.kids t) .unk])], [], []⟩ : LSt U) Q :=
  (Eq.mpr (by kernel_rfl) h :)
abbrev Body30 (t : Tree)  : Prop := awp cfg (know (know30)) (drawOk cfg (know (know30))) Try.f30.ntmps lv30 (cd Try.f30 []) (entry (args30.can (t, ())) []) (EndsQ cfg Try.f30.ntmps Try.f30.results.toList (res30 (t, ())) [])
theorem make30 (c24 : Contract Try.prog cfg 24 spec24) (c54 : Contract Try.prog cfg 54 spec54) (hb : ∀ (t : Tree) (_ : Unit), pre30 (t, ()) → Body30 t) : Contract Try.prog cfg 30 spec30 :=
  contract_flat (l := [(24, spec24), (54, spec54)]) cfgOk rfl (⟨c24, c54, trivial⟩) lv30 Try.func30 rfl rfl 1 (fun _ => rfl) (by decide) (fun ⟨t, _⟩ => hb t ())
noncomputable def know32 : List (FuncId × Fs U) := []
def lv32 : Lives U := fun i => match i with
  | 0 => ([(0, []), (1, [])], [((.x 0), [.wr .u64])])
  | 1 => ([(0, []), (1, []), (5, [])], [((.x 0), [.wr .u64])])
  | 2 => ([(5, [])], [((.x 0), [.wr .u64])])
  | 3 => ([(4, [])], [((.x 0), [.wr .u64])])
  | _ => ([], [])
noncomputable abbrev A32 (p : List Nat) := awp cfg (know know32) (drawOk cfg (know know32)) Try.f32.ntmps lv32 (cd Try.f32 p)
theorem vc32 (l : List Int) (n : Int) (Q : AExit → LSt U → Prop) (h : ((((0 : Int) ≤ n ∧ ((l.length : Int) + n) * ((8 : Nat) : Int) ≤ 140737488355328) ∧ ((Q .ret (⟨[(4, .c (.int .i64 (l.length : Int)))], [((.x 0), [.mref (.x 0 0)])], [(.x 0 0, LC.mk (U := U) .u64 (l ++ List.replicate (Int.toNat n) (0 : Int)) 0)]⟩ : LSt U)))))) :
    A32 [] (⟨[(0, .ptr (.x 0) 0), (1, .c (.int .i64 n))], [((.x 0), [.mref (.x 0 0)])], [(.x 0 0, LC.mk (U := U) .u64 l 0)]⟩ : LSt U) Q :=
  (Eq.mpr (by kernel_rfl) h :)
abbrev Body32 (l : List Int) (n : Int)  : Prop := awp cfg (know (know32)) (drawOk cfg (know (know32))) Try.f32.ntmps lv32 (cd Try.f32 []) (entryL (args32.can ((l, ()), n, ())) (args32.canX ((l, ()), n, ())) (args32.canL ((l, ()), n, ()))) (EndsQL cfg Try.f32.ntmps Try.f32.results.toList (res32 ((l, ()), n, ())) (resX32 ((l, ()), n, ())) (resL32 ((l, ()), n, ())))
theorem make32 (hb : ∀ (l : List Int) (n : Int) (_ : Unit), pre32 ((l, ()), n, ()) → Body32 l n) : Contract Try.prog cfg 32 spec32 :=
  contractXL_flat (l := []) cfgOk rfl (trivial) lv32 Try.func32 rfl rfl 2 (fun _ => rfl) (by decide) (fun ⟨⟨l, _⟩, n, _⟩ => hb l n ())
noncomputable def know1032 : List (FuncId × Fs U) := []
def lv1032 : Lives U := fun i => match i with
  | 0 => ([(0, []), (1, [])], [((.x 0), [.wr .u64])])
  | 1 => ([(0, []), (1, []), (5, [])], [((.x 0), [.wr .u64])])
  | 2 => ([(5, [])], [((.x 0), [.wr .u64])])
  | 3 => ([(4, [])], [((.x 0), [.wr .u64])])
  | _ => ([], [])
noncomputable abbrev A1032 (p : List Nat) := awp cfg (know know1032) (drawOk cfg (know know1032)) Try.f32.ntmps lv1032 (cd Try.f32 p)
theorem vc1032 (l : List Int) (n : Int) (Q : AExit → LSt U → Prop) (h : ((((0 : Int) ≤ n ∧ ((l.length : Int) + n) * ((8 : Nat) : Int) ≤ 140737488355328) ∧ ((Q .ret (⟨[(4, .c (.int .i64 (l.length : Int)))], [((.x 0), [.mref (.x 0 0)])], [(.x 0 0, LC.mk (U := U) .u64 (l ++ List.replicate (Int.toNat n) (0 : Int)) l.length)]⟩ : LSt U)))))) :
    A1032 [] (⟨[(0, .ptr (.x 0) 0), (1, .c (.int .i64 n))], [((.x 0), [.slice (U := U) .u64 l (.own (.x 0 0))])], []⟩ : LSt U) Q :=
  (Eq.mpr (by kernel_rfl) h :)
abbrev Body1032 (l : List Int) (n : Int)  : Prop := awp cfg (know (know1032)) (drawOk cfg (know (know1032))) Try.f32.ntmps lv1032 (cd Try.f32 []) (entryL (args1032.can ((l, ()), n, ())) (args1032.canX ((l, ()), n, ())) (args1032.canL ((l, ()), n, ()))) (EndsQL cfg Try.f32.ntmps Try.f32.results.toList (res1032 ((l, ()), n, ())) (resX1032 ((l, ()), n, ())) (resL1032 ((l, ()), n, ())))
theorem make1032 (hb : ∀ (l : List Int) (n : Int) (_ : Unit), pre1032 ((l, ()), n, ()) → Body1032 l n) : Contract Try.prog cfg 32 spec1032 :=
  contractXL_flat (l := []) cfgOk rfl (trivial) lv1032 Try.func32 rfl rfl 2 (fun _ => rfl) (by decide) (fun ⟨⟨l, _⟩, n, _⟩ => hb l n ())
noncomputable def know55 : List (FuncId × Fs U) := [(75, spec75)]
def lv55 : Lives U := fun i => match i with
  | 0 => ([(0, []), (1, []), (2, []), (7, [])], [((.loc 7), []), ((.x 0), [.wr .u64])])
  | 1 => ([(0, []), (1, []), (7, [])], [((.loc 7), []), ((.x 0), [.wr .u64])])
  | 2 => ([(0, []), (1, []), (7, []), (26, [])], [((.loc 7), []), ((.x 0), [.wr .u64])])
  | 3 => ([(0, []), (1, []), (7, [])], [((.loc 7), []), ((.x 0), [.wr .u64])])
  | 4 => ([(0, []), (1, []), (9, []), (10, [])], [((.x 0), [.wr .u64])])
  | 5 => ([(10, [])], [((.x 0), [.wr .u64])])
  | 6 => ([(8, [])], [((.x 0), [.wr .u64])])
  | _ => ([], [])
noncomputable abbrev A55 (p : List Nat) := awp cfg (know know55) (drawOk cfg (know know55)) Try.f55.ntmps lv55 (cd Try.f55 p)
theorem vc55 (l : List Int) (at_ : Int) (to : Int) (p : Ptr) (Q : AExit → LSt U → Prop) (h : ∀ y_1, y_1 = (Ptr.mk (Ptr.kind p) (-1) (Ptr.data p) (Ptr.ptrs p) (Ptr.code p) (Ptr.count p) (Ptr.segment p) (Ptr.double p)) → ∀ y_2, y_2 = (Ptr.mk (Ptr.kind p) ((((to : Int) - at_) : Int) - 1) (Ptr.data p) (Ptr.ptrs p) (Ptr.code p) (Ptr.count p) (Ptr.segment p) (Ptr.double p)) → ((InR ((to : Int) - at_)) ∧ (InR ((((to : Int) - at_) : Int) - 1)) ∧ ((Tr ((((Ptr.kind p) : Int) == 1) = true)) ∧ (Tr ((((Ptr.kind p) : Int) == 1) = true)) ∧ (Tr ((((Ptr.kind p) : Int) == 1) = true)) ∧ (Tr ((((Ptr.kind p) : Int) == 1) = true)) ∧ ((((Ptr.kind p) : Int) == 1) = true → InR (((Ptr.data p) : Int) + (Ptr.ptrs p))) ∧ (Tr ((((Ptr.kind p) : Int) == 1) = true)) ∧ ((Tr ((((Ptr.kind p) : Int) == 1) = true))) ∧ (((bif (((Ptr.kind p) : Int) == 1) then (((((Ptr.data p) : Int) + (Ptr.ptrs p)) : Int) == 0) else false) = true → ((pre75 (y_1, ())) ∧ (((0 : Int) ≤ at_ ∧ at_ < (l.length : Int)) ∧ ((0 : Nat) ≤ (Int.toNat at_)) ∧ ((Q .ret (⟨[(8, .c (.bool (eqP (decP (encW y_1)) y_1 && !decide (Ptr.kind y_1 = 4))))], [((.x 0), [.mref (.x 0 0)])], [(.x 0 0, LC.mk (U := U) .u64 (List.set l (Int.toNat at_) (encW y_1)) 0)]⟩ : LSt U)))))) ∧ ((bif (((Ptr.kind p) : Int) == 1) then (((((Ptr.data p) : Int) + (Ptr.ptrs p)) : Int) == 0) else false) = false → (pre75 (y_2, ())) ∧ (((0 : Int) ≤ at_ ∧ at_ < (l.length : Int)) ∧ ((0 : Nat) ≤ (Int.toNat at_)) ∧ ((Q .ret (⟨[(8, .c (.bool (eqP (decP (encW y_2)) y_2 && !decide (Ptr.kind y_2 = 4))))], [((.x 0), [.mref (.x 0 0)])], [(.x 0 0, LC.mk (U := U) .u64 (List.set l (Int.toNat at_) (encW y_2)) 0)]⟩ : LSt U))))))))) :
    A55 [] (⟨[(0, .ptr (.x 0) 0), (1, .c (.int .i64 at_)), (2, .c (.int .i64 to)), (3, .agg [.int .i64 (Ptr.kind p), .int .i64 (Ptr.off p), .int .i64 (Ptr.data p), .int .i64 (Ptr.ptrs p), .int .i64 (Ptr.code p), .int .i64 (Ptr.count p), .int .i64 (Ptr.segment p), .bool (Ptr.double p)])], [((.x 0), [.mref (.x 0 0)])], [(.x 0 0, LC.mk (U := U) .u64 l 0)]⟩ : LSt U) Q :=
  (Eq.mpr (by kernel_rfl) (h _ rfl _ rfl) :)
abbrev Body55 (l : List Int) (at_ : Int) (to : Int) (p : Ptr)  : Prop := awp cfg (know (know55)) (drawOk cfg (know (know55))) Try.f55.ntmps lv55 (cd Try.f55 []) (entryL (args55.can ((l, ()), at_, to, p, ())) (args55.canX ((l, ()), at_, to, p, ())) (args55.canL ((l, ()), at_, to, p, ()))) (EndsQL cfg Try.f55.ntmps Try.f55.results.toList (res55 ((l, ()), at_, to, p, ())) (resX55 ((l, ()), at_, to, p, ())) (resL55 ((l, ()), at_, to, p, ())))
theorem make55 (c75 : Contract Try.prog cfg 75 spec75) (hb : ∀ (l : List Int) (at_ : Int) (to : Int) (p : Ptr) (_ : Unit), pre55 ((l, ()), at_, to, p, ()) → Body55 l at_ to p) : Contract Try.prog cfg 55 spec55 :=
  contractXL_flat (l := [(75, spec75)]) cfgOk rfl (⟨c75, trivial⟩) lv55 Try.func55 rfl rfl 4 (fun _ => rfl) (by decide) (fun ⟨⟨l, _⟩, at_, to, p, _⟩ => hb l at_ to p ())
end Go.AM.Ytcljdbpmjdgooaa

namespace Go.AM.Ytcljdbpmjdgooaa
open Go.AM Go.Proofs
theorem fr_snoc : ∀ (a : List Tree) (t : Tree), frW (a ++ [t]) = max (frW a) t.words.length ∧ frK (a ++ [t]) = max (frK a) t.kids.length
  | [], t => by simp [frW, frK]
  | x :: r, t => by
    obtain ⟨h1, h2⟩ := fr_snoc r t
    rw [List.cons_append, frW, frK, h1, h2, frW, frK]
    omega
theorem takeI {ks : List Tree} {i : Int} (h0 : 0 ≤ i) (h : i < ks.length) : ks.take (i + 1).toNat = ks.take i.toNat ++ [ks.getD i.toNat Tree.nil] := by
  rw [show (i + 1).toNat = i.toNat + 1 by omega]
  exact take_snoc (by omega)
theorem fr_take {ks : List Tree} {i : Int} (h0 : 0 ≤ i) (h : i < ks.length) : frW (ks.take (i + 1).toNat) = max (frW (ks.take i.toNat)) (ks.getD i.toNat Tree.nil).words.length ∧ frK (ks.take (i + 1).toNat) = max (frK (ks.take i.toNat)) (ks.getD i.toNat Tree.nil).kids.length := by
  rw [takeI h0 h]
  exact fr_snoc _ _
theorem kids_le (t : Tree) : t.words.length + t.kids.length + 1 ≤ mass t := by
  obtain ⟨k, w, ks⟩ := t
  rw [mass]
  have := fr_mass ks
  show w.length + ks.length + 1 ≤ _
  omega
theorem c74 : Contract Try.prog cfg 74 spec74 := by
  refine make74 ?_
  intro t _ hp
  simp only [pre74] at hp
  have hk := kids_le t
  refine vc74 _ _ ?_
  refine loop_rule (ι := Int × Int × Int) (fun p => head74_0 t p.1 p.2.1 p.2.2) (fun p => 0 ≤ p.2.2 ∧ p.2.2 ≤ t.kids.length ∧ p.1 = frW (t.kids.take p.2.2.toNat) ∧ p.2.1 = frK (t.kids.take p.2.2.toNat)) (fun p => ((t.kids.length : Int) - p.2.2).toNat) (0, 0, 0) rfl ⟨by dsimp only; omega, by dsimp only; omega, rfl, rfl⟩ ?_
  rintro ⟨w, k, i⟩ ⟨h1, h2, h3, h4⟩
  dsimp only at h1 h2 h3 h4
  refine vc74_l0 _ _ _ _ _ _ ?_
  (simp only [vcT, vcS])
  refine ⟨fun hi => ⟨⟨h1, hi⟩, by ((unfold InR; omega)), (if w < ((t.kids.getD i.toNat Tree.nil).words.length : Int) then ((t.kids.getD i.toNat Tree.nil).words.length : Int) else w, if k < ((t.kids.getD i.toNat Tree.nil).kids.length : Int) then ((t.kids.getD i.toNat Tree.nil).kids.length : Int) else k, i + 1), rfl, ⟨by dsimp only; omega, by dsimp only; omega, ?_, ?_⟩, by dsimp only; omega⟩, fun hi => ?_⟩
  · dsimp only
    rw [(fr_take h1 hi).1, h3]
    split <;> omega
  · dsimp only
    rw [(fr_take h1 hi).2, h4]
    split <;> omega
  · have e : i = t.kids.length := by omega
    subst e
    rw [Int.toNat_natCast, List.take_length] at h3 h4
    subst h3 h4
    (repeat' (first | exact trivial | exact rfl | apply And.intro))
theorem c98 : Contract Try.prog cfg 98 spec98 := by
  refine make98 ?_
  intro n _ _
  refine vc98 _ _ ?_
  (simp only [vcT, vcS])
  refine ends_bool rfl ?_
  by_cases h1 : -536870912 ≤ n <;> by_cases h2 : n < 536870912 <;> simp [h1, h2]
theorem wrap_u32 (n : Int) : IntKind.wrap .u32 n = n % 4294967296 := by
  simp [IntKind.wrap, IntKind.signed, IntKind.bits]
theorem or_sum32 {x y : Int} {a : Nat} (hx : 0 ≤ x) (hx' : x < 2 ^ a) (hy : 0 ≤ y) (hs : x + y * 2 ^ a < 4294967296) :
    IntKind.wrap .u32 (BitVec.ofInt (IntKind.bits .u32) (y * 2 ^ a) ||| BitVec.ofInt (IntKind.bits .u32) x).toNat = x + y * 2 ^ a := by
  have hp := pow2_pos a
  have h1 : 0 ≤ y * 2 ^ a := Int.mul_nonneg hy (Int.le_of_lt hp)
  have e : ∀ z : Int, 0 ≤ z → z < 4294967296 → (BitVec.ofInt (IntKind.bits .u32) z).toNat = z.toNat := by
    intro z z0 z1
    simp [IntKind.bits]
    omega
  rw [BitVec.toNat_or, e x hx (by omega), e _ h1 (by omega), wrap_u32]
  obtain ⟨m, rfl⟩ := Int.eq_ofNat_of_zero_le hx
  obtain ⟨n, rfl⟩ := Int.eq_ofNat_of_zero_le hy
  have hpn : (2 : Int) ^ a = ((2 ^ a : Nat) : Int) := by simp
  rw [hpn] at hx' hs ⊢
  have hm : m < 2 ^ a := by omega
  have hor : n * 2 ^ a ||| m = m + n * 2 ^ a := by
    have h := Nat.two_pow_add_eq_or_of_lt hm n
    rw [Nat.mul_comm n, ← h, Nat.add_comm]
  rw [← Int.natCast_mul, Int.toNat_natCast, Int.toNat_natCast, hor]
  push_cast
  push_cast at hs
  omega
theorem c100 : Contract Try.prog cfg 100 spec100 := by
  refine make100 ?_
  intro o k _ hp
  obtain ⟨hk0, hk⟩ := hp
  dsimp only at hk0 hk
  refine vc100 _ _ _ ⟨by decide, ends_int rfl ?_⟩
  show _ = 4 * (o % 1073741824) + k
  have e1 : IntKind.wrap .u32 (IntKind.wrap .u32 o * 2 ^ (min (Int.toNat 2) (IntKind.bits .u32))) = o % 1073741824 * 2 ^ 2 := by
    rw [wrap_u32, wrap_u32, show (2 : Int) ^ (min (Int.toNat 2) (IntKind.bits .u32)) = 4 from rfl, show (2 : Int) ^ 2 = 4 from rfl]
    omega
  have e2 : IntKind.wrap .u32 k = k := by rw [wrap_u32]; omega
  rw [e1, e2, or_sum32 hk0 (by rw [show (2 : Int) ^ 2 = 4 from rfl]; omega) (by omega) (by rw [show (2 : Int) ^ 2 = 4 from rfl]; omega), show (2 : Int) ^ 2 = 4 from rfl, wrap_u64 (by omega) (by omega)]
  omega
end Go.AM.Ytcljdbpmjdgooaa

namespace Go.AM.Ytcljdbpmjdgooaa
open Go.AM Go.Proofs
theorem shl64 {d k : Int} (n : Nat) (hk : min (Int.toNat k) (IntKind.bits .u64) = n) (h0 : 0 ≤ d) (h1 : d < 18446744073709551616) (h2 : d * 2 ^ n < 18446744073709551616) : IntKind.wrap .u64 (IntKind.wrap .u64 d * 2 ^ (min (Int.toNat k) (IntKind.bits .u64))) = d * 2 ^ n := by
  rw [hk, wrap_u64 h0 h1]
  exact wrap_u64 (Int.mul_nonneg h0 (Int.le_of_lt (pow2_pos n))) h2
theorem encW_rng (p : Ptr) : 0 ≤ encW p ∧ encW p < 18446744073709551616 := by
  unfold encW
  have h0 := Int.emod_nonneg p.off (show (1073741824 : Int) ≠ 0 by decide)
  have h1 := Int.emod_lt_of_pos p.off (show (0 : Int) < 1073741824 by decide)
  repeat' split
  all_goals omega
theorem c75 : Contract Try.prog cfg 75 spec75 := by
  refine make75 c98 c99 c100 c101 ?_
  intro p _ hp
  simp only [pre75] at hp
  have hr := encW_rng p
  have o0 := Int.emod_nonneg p.off (show (1073741824 : Int) ≠ 0 by decide)
  have o1 := Int.emod_lt_of_pos p.off (show (0 : Int) < 1073741824 by decide)
  have fin : ∀ {x : Int} {v1 v2 v3 v4 v5 : V U}, x = encW p → A75 [1, 1, 1] (head75_0 p x v1 v2 v3 v4 v5) (EndsQ cfg Try.f75.ntmps Try.f75.results.toList (res75 (p, ())) []) := by
    intro x v1 v2 v3 v4 v5 hx
    refine vc75_c0 _ _ _ _ _ _ _ _ ?_
    refine ⟨by subst hx; exact hr, fun h => h, fun h => h, fun h => h, ?_⟩
    refine ends_eq (r' := .tup [(false, [.int .u64 x]), (false, [.bool (bif eqP (decP x) p then (p.kind != 4) else false)])]) ?_ (by (repeat' (first | exact trivial | exact rfl | apply And.intro)))
    simp only [res75]
    subst hx
    cases eqP (decP (encW p)) p <;> rfl
  have e32 : min (Int.toNat 32) (IntKind.bits .u64) = 32 := rfl
  have e48 : min (Int.toNat 48) (IntKind.bits .u64) = 48 := rfl
  have e35 : min (Int.toNat 35) (IntKind.bits .u64) = 35 := rfl
  have q32 : (2 : Int) ^ 32 = 4294967296 := rfl
  have q48 : (2 : Int) ^ 48 = 281474976710656 := rfl
  have q35 : (2 : Int) ^ 35 = 34359738368 := rfl
  refine vc75 _ _ ?_
  (simp only [vcT, vcS])
  refine ⟨fun k1 => ⟨trivial, fun _ => trivial, fun _ => trivial, fun c => ⟨⟨by dsimp only; omega, by dsimp only; omega⟩, by decide, by decide, fin ?_⟩, fun c => fin ?_⟩, fun k1 => ⟨fun k2 => ⟨trivial, fun _ => trivial, fun _ => trivial, fun c => ⟨⟨by dsimp only; omega, by dsimp only; omega⟩, by decide, by decide, fin ?_⟩, fun c => fin ?_⟩, fun k2 => by rcases hp with h | h; exact absurd h k1; exact absurd h k2⟩⟩
  · obtain ⟨⟨c1, c2⟩, c3⟩ := c
    rw [shl64 32 e32 (by omega) (by omega) (by omega), shl64 48 e48 (by omega) (by omega) (by omega), or_sum (x := 4 * (p.off % 1073741824) + 0) (y := p.data) (a := 32) (by omega) (by omega) (by omega) (by omega), or_sum (y := p.ptrs) (a := 48) (by omega) (by omega) (by omega) (by omega)]
    unfold encW
    rw [if_pos k1, if_pos ⟨c1, c2, c3⟩]
    omega
  · unfold encW
    rw [if_pos k1, if_neg (by omega)]
  · obtain ⟨⟨c1, c2⟩, c3⟩ := c
    rw [shl64 32 e32 (by omega) (by omega) (by omega), shl64 35 e35 (by omega) (by omega) (by omega), or_sum (x := 4 * (p.off % 1073741824) + 1) (y := p.code) (a := 32) (by omega) (by omega) (by omega) (by omega), or_sum (y := p.count) (a := 35) (by omega) (by omega) (by omega) (by omega)]
    unfold encW
    rw [if_neg k1, if_pos k2, if_pos ⟨c1, c2, c3⟩]
    omega
  · unfold encW
    rw [if_neg k1, if_pos k2, if_neg (by omega)]
theorem c32 : Contract Try.prog cfg 32 spec32 := by
  refine make32 ?_
  intro l n _ hp
  obtain ⟨h1, h2, h3⟩ := hp
  dsimp only at h1 h2 h3
  refine vc32 _ _ _ ⟨⟨h2, by dsimp only; omega⟩, ?_⟩
  (repeat' (first | exact trivial | exact rfl | apply And.intro))
theorem c1032 : Contract Try.prog cfg 32 spec1032 := by
  refine make1032 ?_
  intro l n _ hp
  obtain ⟨h1, h2, h3⟩ := hp
  dsimp only at h1 h2 h3
  subst h1
  refine vc1032 _ _ _ ⟨⟨h2, by simp; omega⟩, ?_⟩
  (repeat' (first | exact trivial | exact rfl | apply And.intro))
theorem c55 : Contract Try.prog cfg 55 spec55 := by
  refine make55 c75 ?_
  intro l a to p _ hp
  obtain ⟨⟨h1, h2, h3, h4⟩, hk⟩ := hp
  dsimp only at h1 h2 h3 h4 hk
  have he := pnt_enc hk h1 h3 (by omega) (by omega)
  have kk : p.kind = 1 ∨ p.kind = 2 := by rcases hk.1 with h | h; exact .inl h.1; exact .inr h.1
  have hb : ∀ y, y = pntP a to p → (eqP (decP (encW y)) y && !decide (y.kind = 4)) = true ∧ encW y = pntW a to p := by
    rintro y rfl
    rw [he.2, eqP_self, he.1]
    refine ⟨?_, rfl⟩
    have : (pntP a to p).kind = p.kind := rfl
    rw [this]
    simp only [Bool.true_and, Bool.not_eq_true', decide_eq_false_iff_not]
    omega
  refine vc55 _ _ _ _ _ ?_
  intro y1 e1 y2 e2
  (simp only [vcT, vcS])
  refine ⟨by ((unfold InR; omega)), by ((unfold InR; omega)), fun h => ?_, fun h => ⟨?_, ⟨h1, h2⟩, Nat.zero_le _, ?_⟩, fun h => ⟨?_, ⟨h1, h2⟩, Nat.zero_le _, ?_⟩⟩
  · rcases hk.1 with g | g <;> ((unfold InR; omega))
  · subst e1; exact kk
  · obtain ⟨g1, g2⟩ := hb y1 (by rw [e1]; unfold pntP; rw [if_pos h])
    rw [g1, g2]
    (repeat' (first | exact trivial | exact rfl | apply And.intro))
  · subst e2; exact kk
  · obtain ⟨g1, g2⟩ := hb y2 (by rw [e2]; unfold pntP; rw [if_neg (by omega)])
    rw [g1, g2]
    (repeat' (first | exact trivial | exact rfl | apply And.intro))
theorem sizeK_app : ∀ a b : List Tree, sizeK (a ++ b) = sizeK a + sizeK b
  | [], b => by simp [sizeK]
  | t :: r, b => by rw [List.cons_append, sizeK, sizeK, sizeK_app r b]; omega
theorem sizeR_app : ∀ a b : List Tree, sizeR (a ++ b) = sizeR a + sizeR b
  | [], b => by simp [sizeR]
  | .mk _ _ ks :: r, b => by rw [List.cons_append, sizeR, sizeR, sizeR_app r b]; omega
theorem sizeK_take {ks : List Tree} {i : Int} (h0 : 0 ≤ i) (h : i < ks.length) : sizeK (ks.take (i + 1).toNat) = sizeK (ks.take i.toNat) + sizeN (ks.getD i.toNat Tree.nil) := by
  rw [takeI h0 h, sizeK_app, sizeK, sizeK]; rfl
theorem sizeR_take {ks : List Tree} {i : Int} (h0 : 0 ≤ i) (h : i < ks.length) : sizeR (ks.take (i + 1).toNat) = sizeR (ks.take i.toNat) + sizeK (ks.getD i.toNat Tree.nil).kids := by
  rw [takeI h0 h, sizeR_app]
  cases ks.getD i.toNat Tree.nil
  rw [sizeR, sizeR]; rfl
theorem sizeK_take_le (ks : List Tree) (n : Nat) : sizeK (ks.take n) ≤ sizeK ks := by
  conv => rhs; rw [← List.take_append_drop n ks, sizeK_app]
  omega
theorem sizeR_take_le (ks : List Tree) (n : Nat) : sizeR (ks.take n) ≤ sizeR ks := by
  conv => rhs; rw [← List.take_append_drop n ks, sizeR_app]
  omega
theorem kid_mass {t : Tree} {i : Nat} (h : i < t.kids.length) : mass (t.kids.getD i Tree.nil) + 1 ≤ mass t := by
  obtain ⟨k, w, ks⟩ := t
  have := mem_getD (l := ks) h Tree.nil
  have hm : ∀ {l : List Tree} {x : Tree}, x ∈ l → mass x ≤ massK l := by
    intro l
    induction l with
    | nil => intro x hx; cases hx
    | cons y l ih =>
      intro x hx
      rw [massK]
      rcases List.mem_cons.1 hx with rfl | hx
      · omega
      · have := ih hx; omega
  have := hm this
  rw [mass]
  show mass (ks.getD i Tree.nil) + 1 ≤ _
  omega
theorem size_le {t : Tree} (h : mass t ≤ 1000000) : sizeN t ≤ 1000000000000 := Nat.le_trans (size_mass t) (Nat.le_trans (Nat.mul_le_mul h h) (by decide))
theorem c54 : Contract Try.prog cfg 54 spec54 := by
  refine make54 c74 c87 c86 ?_
  intro N t _ hp hN
  obtain ⟨hp, d, hr⟩ := hp
  dsimp only at hp hr
  have hN : mass t < N + 1 := hN
  have hk := kids_le t
  have hs := size_le hp
  have rt : RiT t.kind t.words t.kids d := riT (by rw [Tree.eta]; exact hr)
  have esz : sizeN t = if t.kind = 1 then t.words.length + t.kids.length + sizeK t.kids else if t.kind = 8 then t.kids.length + sizeK t.kids else if t.kind = 9 then 1 + t.kids.length * (frW t.kids + frK t.kids) + sizeR t.kids
      else if 2 ≤ t.kind ∧ t.kind ≤ 7 then (roomW (t.kind - 2) t.kids.length).toNat else sizeK t.kids := by
    obtain ⟨k, w, ks⟩ := t
    rw [sizeN]; rfl
  have low : ∀ {x : Int} {K : AExit → LSt U → Prop}, x + sizeK t.kids = sizeN t → 0 ≤ x → (∀ s : LSt U, K .ret s = EndsQ cfg Try.f54.ntmps Try.f54.results.toList (res54 (t, ())) [] .ret s) → True := fun _ _ _ => trivial
  have loopL : ∀ {x : Int}, x + sizeK t.kids = sizeN t → 0 ≤ x → LoopWp (A54 N [1, 1, 1, 0, 1, 0, 0]) (head54_0 t x 0) (AExit.inBlock 3 (S54 N [1, 1, 1, 1] (EndsQ cfg Try.f54.ntmps Try.f54.results.toList (res54 (t, ())) []))) := by
    intro x hx h0
    refine loop_rule (ι := Int × Int) (fun p => head54_0 t p.1 p.2) (fun p => 0 ≤ p.2 ∧ p.2 ≤ t.kids.length ∧ p.1 = x + sizeK (t.kids.take p.2.toNat)) (fun p => ((t.kids.length : Int) - p.2).toNat) (x, 0) rfl ⟨by dsimp only; omega, by dsimp only; omega, by simp [sizeK]⟩ ?_
    rintro ⟨s, i⟩ ⟨g1, g2, g3⟩
    dsimp only at g1 g2 g3
    refine vc54_l0 _ _ _ _ _ _ ?_
    (simp only [vcT, vcS])
    simp only [Tree.eta]
    refine ⟨fun hi => ?_, fun hi => ?_⟩
    · have hm := kid_mass (t := t) (i := i.toNat) (by omega)
      have ht := sizeK_take g1 hi
      have hl := sizeK_take_le t.kids (i + 1).toNat
      have q1 : mass (t.kids.getD i.toNat Tree.nil) ≤ 1000000 := by omega
      have q2 : mass (t.kids.getD i.toNat Tree.nil) < N := by omega
      exact ⟨⟨g1, hi⟩, ⟨q1, _, (rt.kids _ (mem_getD (by omega) _)).1⟩, q2, by ((unfold InR; omega)), by ((unfold InR; omega)), (s + sizeN (t.kids.getD i.toNat Tree.nil), i + 1), rfl, ⟨by dsimp only; omega, by dsimp only; omega, by dsimp only; omega⟩, by dsimp only; omega⟩
    · have e : i = t.kids.length := by omega
      subst e
      rw [Int.toNat_natCast, List.take_length] at g3
      exact ends_int rfl (by show s = (sizeN t : Int); omega)
  refine vc54 _ _ _ ?_
  rintro y1 rfl
  (simp only [vcT, vcS])
  refine ⟨fun h => ⟨by ((unfold InR; omega)), loopL (by rw [esz, if_pos h]; omega) (by omega)⟩, fun h1 => ⟨fun h => loopL (by rw [esz, if_neg h1, if_pos h]; omega) (by omega), fun h8 => ⟨trivial, fun h => ?_, fun h27 => ⟨fun h9 => ?_, fun h9 => loopL (by rw [esz, if_neg h1, if_neg h8, if_neg h9, if_neg h27]; omega) (Int.le_refl _)⟩⟩⟩⟩
  · refine ⟨by ((unfold InR; omega)), trivial, ends_int rfl ?_⟩
    show roomW _ _ = (sizeN y1 : Int)
    have hr : 0 ≤ roomW (y1.kind - 2) y1.kids.length := by
      unfold roomW
      split
      · omega
      · rcases wd_div (y1.kind - 2) with e | e | e | e | e | e
        · omega
        all_goals (rw [e]; omega)
    rw [esz, if_neg (by omega), if_neg (by omega), if_neg (by omega), if_pos h]
    omega
  · rw [if_neg (by omega), if_neg (by omega), if_pos h9] at esz
    have hf := fr_mass y1.kids
    have hmk : massK y1.kids ≤ mass y1 := by obtain ⟨k, w, ks⟩ := y1; rw [mass]; show massK ks ≤ _; omega
    obtain ⟨P, hP⟩ : ∃ P, P = y1.kids.length * (frW y1.kids + frK y1.kids) := ⟨_, rfl⟩
    have hPI : (y1.kids.length : Int) * ((frW y1.kids : Int) + frK y1.kids) = P := by rw [hP, Int.natCast_mul, Int.natCast_add]
    rw [← hP] at esz
    rw [hPI]
    refine ⟨hp, by ((unfold InR; omega)), by ((unfold InR; omega)), by ((unfold InR; omega)), ?_⟩
    refine loop_rule (ι := Int × Int) (fun p => head54_1 y1 p.1 p.2) (fun p => 0 ≤ p.2 ∧ p.2 ≤ y1.kids.length ∧ p.1 = 1 + (P : Int) + sizeR (y1.kids.take p.2.toNat)) (fun p => ((y1.kids.length : Int) - p.2).toNat) (1 + (P : Int), 0) rfl ⟨by dsimp only; omega, by dsimp only; omega, ?_⟩ ?_
    · simp [sizeR]
    rintro ⟨s, i⟩ ⟨g1, g2, g3⟩
    dsimp only at g1 g2 g3
    refine vc54_l1 _ _ _ _ _ _ ?_
    rintro y2 rfl y3 rfl
    (simp only [vcT, vcS])
    refine ⟨fun hi => ?_, fun hi => ?_⟩
    · have hm := kid_mass (t := y1) (i := i.toNat) (by omega)
      have ht := sizeR_take g1 hi
      have hl := sizeR_take_le y1.kids (i + 1).toNat
      have hmem := mem_getD (l := y1.kids) (i := i.toNat) (by omega) Tree.nil
      have hk1 := (rt.kids _ hmem).2.2.2 h9
      have hkr := (rt.kids _ hmem).1
      generalize y1.kids.getD i.toNat Tree.nil = y at *
      have ey : sizeN y = y.words.length + y.kids.length + sizeK y.kids := by
        obtain ⟨k, w, ks⟩ := y
        have hk1 : k = 1 := hk1
        rw [sizeN, if_pos hk1]; rfl
      have q1 : mass y ≤ 1000000 := by omega
      have qs := size_le q1
      have hs' : sizeN y1 ≤ 1000000000000 := hs
      have q2 : mass y < N := by omega
      exact ⟨⟨g1, hi⟩, ⟨q1, _, hkr⟩, q2, by ((unfold InR; omega)), by ((unfold InR; omega)), by ((unfold InR; omega)), by ((unfold InR; omega)), (s + ((sizeN y : Int) - y.words.length - y.kids.length), i + 1), rfl, ⟨by dsimp only; omega, by dsimp only; omega, by dsimp only; omega⟩, by dsimp only; omega⟩
    · have e : i = y1.kids.length := by omega
      subst e
      rw [Int.toNat_natCast, List.take_length] at g3
      exact ends_int rfl (by show s = (sizeN y1 : Int); omega)
theorem c30 : Contract Try.prog cfg 30 spec30 := by
  refine make30 c24 c54 ?_
  intro t _ hp
  obtain ⟨hp, d, hr⟩ := hp
  dsimp only at hp hr
  have hm := normT_mass t
  refine vc30 _ _ ?_
  simp only [Tree.eta]
  exact ⟨by show mass t ≤ _; omega, ⟨by dsimp only; omega, d, rightT_norm t d hr⟩, ends_int rfl rfl⟩
end Go.AM.Ytcljdbpmjdgooaa

namespace Go.AM.Ytcljdbpmjdgooaa
open Go.AM Go.Proofs
theorem fs_conv {f : FuncId} {α : Type} {A : ArgL α} {pre pre' : α → Prop} {res res' : α → V U} (h : Contract Try.prog cfg f (fs A (fun a => [pre a]) res)) (hh : ∀ a, pre' a → pre a ∧ res a = res' a) : Contract Try.prog cfg f (fs A (fun a => [pre' a]) res') := by
  refine contract_mk h.1 rfl ?_
  intro args X ps r X' hs hps
  unfold fs at hs
  simp only at hs
  split at hs
  · split at hs
    · rename_i a ha
      cases hs
      obtain ⟨h1, h2⟩ := hh a hps.1
      rw [← h2]
      exact h.one rfl args [] [pre a] _ [] (by unfold fs; simp only [ha]) ⟨h1, trivial⟩
    · cases hs
  · cases hs
def pre1060 (a : Int × List Int × Unit) : Prop := (okW a.2.1 ∧ a.2.1.length ≤ 1099511627776) ∧ fitsA a.1 a.2.1 = true
noncomputable def res1060 (a : Int × List Int × Unit) : V U := .tup [(false, [.slice (U := U) .u64 (putW a.1 a.2.1) .unk]), (false, [.bool true])]
noncomputable def spec1060 : Fs U := fs args60 (fun a => [pre1060 a]) res1060
theorem c1060 : Contract Try.prog cfg 60 spec1060 := fs_conv c60 fun a h => ⟨h.1, by
  unfold res60 res1060
  rw [h.2]
  unfold putR
  rw [if_pos h.2]⟩
end Go.AM.Ytcljdbpmjdgooaa
