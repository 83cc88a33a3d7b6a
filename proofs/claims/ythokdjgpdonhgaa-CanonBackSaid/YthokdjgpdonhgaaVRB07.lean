import Derived.Test.YthokdjgpdonhgaaQD8
set_option linter.unusedSimpArgs false
set_option linter.unusedVariables false
namespace Go.AM.Ythokdjgpdonhgaa
open Go.AM Go.Proofs
theorem kidsP_len : ∀ (ks : List Tree) (a to : Int), (kidsP ks a to).1.length = ks.length
  | [], _, _ => by rw [kidsP]; rfl
  | t :: r, a, to => by rw [kidsP, List.length_cons, List.length_cons, kidsP_len r]
theorem kidsP_snoc : ∀ (ks : List Tree) (t : Tree) (a to : Int),
    kidsP (ks ++ [t]) a to = ((kidsP ks a to).1 ++ [headP (a + ks.length) (to + (kidsP ks a to).2.length) t], (kidsP ks a to).2 ++ blkP t (to + (kidsP ks a to).2.length))
  | [], t, a, to => by simp [kidsP]
  | k :: r, t, a, to => by
    rw [List.cons_append, kidsP, kidsP_snoc r t, kidsP]
    rw [show a + 1 + (r.length : Int) = a + ((k :: r : List Tree).length : Nat) by rw [List.length_cons]; omega,
      show to + ((blkP k to).length : Int) + ((kidsP r (a + 1) (to + (blkP k to).length)).2.length : Int) = to + ((blkP k to ++ (kidsP r (a + 1) (to + (blkP k to).length)).2).length : Nat) by rw [List.length_append]; omega]
    simp only [List.cons_append, List.append_assoc]
def kidsSt (A S : List Int) (ks : List Tree) (to : Int) (i : Nat) : List Int :=
  A ++ ((kidsP (ks.take i) A.length to).1 ++ (List.replicate (ks.length - i) 0 ++ (S ++ (kidsP (ks.take i) A.length to).2)))
theorem take_snoc {ks : List Tree} {i : Nat} (h : i < ks.length) : ks.take (i + 1) = ks.take i ++ [ks.getD i Tree.nil] := by
  rw [List.getD_eq_getElem?_getD, List.getElem?_eq_getElem h, Option.getD_some]
  exact (List.take_append_getElem h).symm
theorem kidsSt_len (A S : List Int) (ks : List Tree) (to : Int) {i : Nat} (h : i ≤ ks.length) : (kidsSt A S ks to i).length = A.length + ks.length + S.length + (kidsP (ks.take i) A.length to).2.length := by
  unfold kidsSt
  simp only [List.length_append, List.length_replicate, kidsP_len, List.length_take]
  omega
theorem kids_step {A S : List Int} {ks : List Tree} {i : Nat} (h : i < ks.length) :
    layP (kidsSt A S ks (A.length + ks.length + S.length : Nat) i) (A.length + i) (ks.getD i Tree.nil) = kidsSt A S ks (A.length + ks.length + S.length : Nat) (i + 1) := by
  have hl := kidsSt_len A S ks (A.length + ks.length + S.length : Nat) (Nat.le_of_lt h)
  generalize ht : ks.getD i Tree.nil = t
  have hz : List.replicate (ks.length - i) (0 : Int) = 0 :: List.replicate (ks.length - (i + 1)) 0 := by
    rw [← List.replicate_succ]; congr 1; omega
  have htk : (ks.take i).length = i := by rw [List.length_take]; omega
  have hsn : kidsSt A S ks (A.length + ks.length + S.length : Nat) (i + 1) =
      A ++ ((kidsP (ks.take i) A.length (A.length + ks.length + S.length : Nat)).1 ++ (headP (A.length + i) (kidsSt A S ks (A.length + ks.length + S.length : Nat) i).length t ::
        (List.replicate (ks.length - (i + 1)) 0 ++ (S ++ ((kidsP (ks.take i) A.length (A.length + ks.length + S.length : Nat)).2 ++ blkP t (kidsSt A S ks (A.length + ks.length + S.length : Nat) i).length))))) := by
    rw [hl]
    conv => lhs; unfold kidsSt
    rw [take_snoc h, kidsP_snoc, ht, htk]
    simp only [List.append_assoc, List.singleton_append, Int.natCast_add]
  rw [hsn]
  have hset : (kidsSt A S ks (A.length + ks.length + S.length : Nat) i).set (A.length + i) (headP (A.length + i) (kidsSt A S ks (A.length + ks.length + S.length : Nat) i).length t) =
      A ++ ((kidsP (ks.take i) A.length (A.length + ks.length + S.length : Nat)).1 ++ (headP (A.length + i) (kidsSt A S ks (A.length + ks.length + S.length : Nat) i).length t :: (List.replicate (ks.length - (i + 1)) 0 ++ (S ++ (kidsP (ks.take i) A.length (A.length + ks.length + S.length : Nat)).2)))) := by
    generalize headP (A.length + i) (kidsSt A S ks (A.length + ks.length + S.length : Nat) i).length t = x
    unfold kidsSt
    rw [hz, List.set_append_right _ _ (by omega), List.set_append_right _ _ (by rw [kidsP_len, htk]; omega), kidsP_len, htk, show A.length + i - A.length - i = 0 by omega]
    rfl
  unfold layP
  rw [show ((A.length : Int) + (i : Int)).toNat = A.length + i by omega]
  by_cases h0 : t.kind = 0
  · rw [if_pos h0]
    have hh : headP (A.length + i) (kidsSt A S ks (A.length + ks.length + S.length : Nat) i).length t = 0 := by cases t; exact if_pos h0
    have hb : ∀ to, blkP t to = [] := by intro to; cases t; rw [blkP]; exact if_pos h0
    rw [hh, hb, List.append_nil]
    unfold kidsSt
    rw [hz]
    rfl
  · rw [if_neg h0, hset]
    simp only [List.append_assoc, List.cons_append]
theorem kidsSt_zero (A S : List Int) (ks : List Tree) (to : Int) : kidsSt A S ks to 0 = A ++ (List.replicate ks.length 0 ++ S) := by
  unfold kidsSt
  simp [kidsP]
theorem kidsSt_all (A S : List Int) (ks : List Tree) (to : Int) : kidsSt A S ks to ks.length = A ++ ((kidsP ks A.length to).1 ++ (S ++ (kidsP ks A.length to).2)) := by
  unfold kidsSt
  simp
theorem rowsP_len {fw fk : Nat} : ∀ (ks : List Tree) (a to : Int), (∀ t ∈ ks, t.words.length ≤ fw ∧ t.kids.length ≤ fk) → (rowsP fw fk ks a to).1.length = ks.length * (fw + fk)
  | [], _, _, _ => by rw [rowsP]; simp
  | .mk k w l :: r, a, to, h => by
    have h1 : w.length ≤ fw ∧ l.length ≤ fk := h _ List.mem_cons_self
    rw [rowsP]
    simp only [List.length_append, List.length_replicate, kidsP_len, List.length_cons]
    rw [rowsP_len r _ _ fun t ht => h t (List.mem_cons_of_mem _ ht), Nat.add_mul]
    omega
theorem rowsP_snoc {fw fk : Nat} : ∀ (ks : List Tree) (t : Tree) (a to : Int),
    rowsP fw fk (ks ++ [t]) a to = ((rowsP fw fk ks a to).1 ++ (t.words ++ (List.replicate (fw - t.words.length) 0 ++ ((kidsP t.kids (a + (ks.length * (fw + fk) : Nat) + fw) (to + (rowsP fw fk ks a to).2.length)).1 ++ List.replicate (fk - t.kids.length) 0))),
      (rowsP fw fk ks a to).2 ++ (kidsP t.kids (a + (ks.length * (fw + fk) : Nat) + fw) (to + (rowsP fw fk ks a to).2.length)).2)
  | [], .mk k w l, a, to => by simp [rowsP]
  | .mk k w l :: r, t, a, to => by
    rw [List.cons_append, rowsP, rowsP_snoc r t, rowsP]
    have e1 : a + ((fw : Int) + fk) + (r.length * (fw + fk) : Nat) + fw = a + (((.mk k w l :: r : List Tree).length * (fw + fk) : Nat)) + fw := by
      rw [List.length_cons, Nat.add_mul]; omega
    have e2 : to + ((kidsP l (a + fw) to).2.length : Int) + ((rowsP fw fk r (a + (fw + fk)) (to + (kidsP l (a + fw) to).2.length)).2.length : Int) =
        to + ((((kidsP l (a + fw) to).2 ++ (rowsP fw fk r (a + (fw + fk)) (to + (kidsP l (a + fw) to).2.length)).2).length : Nat) : Int) := by
      rw [List.length_append]; omega
    rw [e1, e2]
    simp only [List.append_assoc]
theorem frW_le : ∀ {ks : List Tree} {t : Tree}, t ∈ ks → t.words.length ≤ frW ks ∧ t.kids.length ≤ frK ks
  | k :: r, t, h => by
    rw [frW, frK]
    rcases List.mem_cons.1 h with rfl | h
    · omega
    · have := frW_le h; omega
theorem rightK_mem {i : Int} : ∀ {ks : List Tree} {d : Int} {t : Tree}, rightK i ks d = true → t ∈ ks → kidB i t = true ∧ rightT t d = true
  | k :: r, d, t, h, ht => by
    rw [rightK, Bool.and_eq_true, Bool.and_eq_true] at h
    rcases List.mem_cons.1 ht with rfl | ht
    · exact h.1
    · exact rightK_mem h.2 ht
structure RiT (k : Int) (w : List Int) (ks : List Tree) (d : Int) : Prop where
  kind : 0 ≤ k ∧ k ≤ 10
  nil : k = 0 → w = [] ∧ ks = []
  atom : k = 10 → w.length = 1 ∧ ks = []
  stru : k = 1 → w.length < 65536 ∧ ks.length < 65536
  list : k ≠ 1 → k ≠ 10 → w = []
  len : ks.length < 1048576
  kids : ∀ t ∈ ks, rightT t (d - 1) = true ∧ (k ≠ 1 → kidB k t = true) ∧ (k = 1 ∨ k = 8 → t.kind ≠ 10) ∧ (k = 9 → t.kind = 1)
  data : 2 ≤ k → k ≤ 7 → fitsA (k - 2) (numsP ks) = true ∧ ∀ t ∈ ks, t.kind = 10 ∧ t.kids.length = 0 ∧ t.words.length = 1
theorem riT {k : Int} {w : List Int} {ks : List Tree} {d : Int} (h : rightT (.mk k w ks) d = true) : RiT k w ks d := by
  rw [rightT] at h
  split at h
  · rename_i h0
    have := of_decide_eq_true h
    have h1 := List.length_eq_zero_iff.1 this.1
    have h2 := List.length_eq_zero_iff.1 this.2
    subst h1 h2
    exact ⟨by omega, fun _ => ⟨rfl, rfl⟩, by omega, by omega, fun _ _ => rfl, by simp, fun t ht => (by cases ht), by omega⟩
  · split at h
    · have := of_decide_eq_true h
      have h2 := List.length_eq_zero_iff.1 this.2
      subst h2
      exact ⟨by omega, by omega, fun _ => ⟨this.1, rfl⟩, by omega, by omega, by simp, fun t ht => (by cases ht), by omega⟩
    · split at h
      · cases h
      · split at h
        · rename_i h1
          rw [Bool.and_eq_true] at h
          have hw := of_decide_eq_true h.1
          refine ⟨by omega, by omega, by omega, fun _ => hw, by omega, by omega, fun t ht => ?_, by omega⟩
          have := rightK_mem h.2 ht
          refine ⟨this.2, by omega, fun _ => ?_, by omega⟩
          have hb := this.1
          unfold kidB at hb
          rw [if_neg (by omega), if_neg (by omega)] at hb
          exact of_decide_eq_true hb
        · rename_i h1
          rw [Bool.and_eq_true] at h
          have hw := of_decide_eq_true h.1
          refine ⟨by omega, by omega, by omega, by omega, fun _ _ => List.length_eq_zero_iff.1 hw.2.2.1, by omega, fun t ht => ?_, fun h2 h7 => ?_⟩
          · have := rightK_mem h.2 ht
            refine ⟨this.2, fun _ => this.1, fun h8 => ?_, fun h9 => ?_⟩
            · have hb := this.1
              unfold kidB at hb
              rw [if_neg (by omega), if_neg (by omega)] at hb
              exact of_decide_eq_true hb
            · have hb := this.1
              unfold kidB at hb
              rw [if_neg (by omega), if_pos h9] at hb
              exact of_decide_eq_true hb
          · have hk : ∀ t ∈ ks, (t.kind = 10 ∧ t.kids.length = 0 ∧ t.words.length = 1) ∧ fits (k - 2) (t.words.getD 0 0) = true := fun t ht => by
              have hb := (rightK_mem h.2 ht).1
              unfold kidB at hb
              rw [if_pos ⟨h2, h7⟩, Bool.and_eq_true] at hb
              exact ⟨of_decide_eq_true hb.1, hb.2⟩
            refine ⟨?_, fun t ht => (hk t ht).1⟩
            unfold fitsA
            rw [Bool.and_eq_true]
            refine ⟨decide_eq_true ?_, List.all_eq_true.2 fun x hx => ?_⟩
            · unfold wd; repeat' split
              all_goals omega
            · obtain ⟨t, ht, rfl⟩ := List.mem_map.1 hx
              exact (hk t ht).2
mutual
theorem blkP_len : ∀ (t : Tree) (d to : Int), rightT t d = true → t.kind ≠ 10 → (blkP t to).length = sizeN t
  | .mk k w ks, d, to, h, h10 => by
    have hr := riT h
    have h10 : k ≠ 10 := h10
    rw [blkP, sizeN]
    split
    · rename_i h0
      subst h0
      rw [if_neg (by decide), if_neg (by decide), if_neg (by decide), if_neg (by decide), (hr.nil rfl).2]
      rfl
    · rename_i h0
      split
      · rename_i h1
        rw [List.length_append, List.length_append, kidsP_len, kidsP_blk ks (d - 1) _ _ fun t ht => ⟨(hr.kids t ht).1, (hr.kids t ht).2.2.1 (.inl h1)⟩]
        omega
      · split
        · rename_i h8
          rw [List.length_append, kidsP_len, kidsP_blk ks (d - 1) _ _ fun t ht => ⟨(hr.kids t ht).1, (hr.kids t ht).2.2.1 (.inr h8)⟩]
        · split
          · rename_i h9
            rw [List.length_cons, List.length_append, rowsP_len ks _ _ fun t ht => frW_le ht, rowsP_blk (frW ks) (frK ks) ks (d - 1) _ _ fun t ht => ⟨(hr.kids t ht).1, (hr.kids t ht).2.2.2 h9⟩]
            omega
          · have hk := hr.kind
            rw [if_pos (by omega)]
            unfold putR
            rw [if_pos (hr.data (by omega) (by omega)).1, putW_len, numsP, List.length_map]
theorem kidsP_blk : ∀ (ks : List Tree) (d a to : Int), (∀ t ∈ ks, rightT t d = true ∧ t.kind ≠ 10) → (kidsP ks a to).2.length = sizeK ks
  | [], _, _, _, _ => by rw [kidsP, sizeK]; rfl
  | t :: r, d, a, to, h => by
    have h1 := h t List.mem_cons_self
    rw [kidsP, sizeK, List.length_append, blkP_len t d to h1.1 h1.2, kidsP_blk r d _ _ fun t ht => h t (List.mem_cons_of_mem _ ht)]
theorem rowsP_blk (fw fk : Nat) : ∀ (ks : List Tree) (d a to : Int), (∀ t ∈ ks, rightT t d = true ∧ t.kind = 1) → (rowsP fw fk ks a to).2.length = sizeR ks
  | [], _, _, _, _ => by rw [rowsP, sizeR]; rfl
  | .mk k w l :: r, d, a, to, h => by
    have h1 := h _ List.mem_cons_self
    have h1k : k = 1 := h1.2
    have hr := riT h1.1
    rw [rowsP, sizeR, List.length_append, kidsP_blk l (d - 1) _ _ fun t ht => ⟨(hr.kids t ht).1, (hr.kids t ht).2.2.1 (.inl h1k)⟩, rowsP_blk fw fk r d _ _ fun t ht => h t (List.mem_cons_of_mem _ ht)]
end
end Go.AM.Ythokdjgpdonhgaa

namespace Go.AM.Ythokdjgpdonhgaa
open Go.AM Go.Proofs
def zs (n : Nat) : List Int := List.replicate n 0
@[simp] theorem zs_len (n : Nat) : (zs n).length = n := by simp [zs]
theorem zs_add (n m : Nat) : zs (n + m) = zs n ++ zs m := by rw [zs, zs, zs, List.replicate_append_replicate]
def rowSt (A R : List Int) (fw fk : Nat) (ks : List Tree) (i : Nat) : List Int :=
  A ++ ((rowsP fw fk (ks.take i) A.length (A.length + ks.length * (fw + fk) : Nat)).1 ++ (R ++ (rowsP fw fk (ks.take i) A.length (A.length + ks.length * (fw + fk) : Nat)).2))
def rowA (A : List Int) (fw fk : Nat) (ks : List Tree) (i : Nat) : List Int :=
  A ++ ((rowsP fw fk (ks.take i) A.length (A.length + ks.length * (fw + fk) : Nat)).1 ++ ((ks.getD i Tree.nil).words ++ zs (fw - (ks.getD i Tree.nil).words.length)))
def rowS (A R : List Int) (fw fk : Nat) (ks : List Tree) (i : Nat) : List Int :=
  zs (fk - (ks.getD i Tree.nil).kids.length) ++ (R ++ (rowsP fw fk (ks.take i) A.length (A.length + ks.length * (fw + fk) : Nat)).2)
def Fit (fw fk : Nat) (ks : List Tree) : Prop := ∀ t ∈ ks, t.words.length ≤ fw ∧ t.kids.length ≤ fk
theorem Fit.get {fw fk : Nat} {ks : List Tree} (h : Fit fw fk ks) {i : Nat} (hi : i < ks.length) : (ks.getD i Tree.nil).words.length ≤ fw ∧ (ks.getD i Tree.nil).kids.length ≤ fk := by
  rw [List.getD_eq_getElem?_getD, List.getElem?_eq_getElem hi]
  exact h _ (List.getElem_mem hi)
theorem Fit.take {fw fk : Nat} {ks : List Tree} (h : Fit fw fk ks) (i : Nat) : Fit fw fk (ks.take i) := fun t ht => h t (List.mem_of_mem_take ht)
theorem rowA_len {A : List Int} {fw fk : Nat} {ks : List Tree} (h : Fit fw fk ks) {i : Nat} (hi : i < ks.length) : (rowA A fw fk ks i).length = A.length + i * (fw + fk) + fw := by
  have := h.get hi
  unfold rowA
  rw [List.length_append, List.length_append, List.length_append, zs_len, rowsP_len _ _ _ (h.take i), List.length_take, Nat.min_eq_left (by omega)]
  omega
theorem rowS_len {A R : List Int} {fw fk : Nat} {ks : List Tree} (h : Fit fw fk ks) {i : Nat} (hi : i < ks.length) (hR : R.length = (ks.length - (i + 1)) * (fw + fk)) :
    (rowA A fw fk ks i).length + (ks.getD i Tree.nil).kids.length + (rowS A R fw fk ks i).length = A.length + ks.length * (fw + fk) + (rowsP fw fk (ks.take i) A.length (A.length + ks.length * (fw + fk) : Nat)).2.length := by
  have := h.get hi
  have e : ks.length * (fw + fk) = i * (fw + fk) + (fw + fk) + (ks.length - (i + 1)) * (fw + fk) := by
    rw [← Nat.succ_mul, ← Nat.add_mul]; congr 1; omega
  rw [rowA_len h hi]
  unfold rowS
  rw [List.length_append, List.length_append, zs_len, hR]
  omega
theorem row_zero {A R : List Int} {fw fk : Nat} {ks : List Tree} (h : Fit fw fk ks) {i : Nat} (hi : i < ks.length) (to : Int) :
    kidsSt (rowA A fw fk ks i) (rowS A R fw fk ks i) (ks.getD i Tree.nil).kids to 0 = rowSt A ((ks.getD i Tree.nil).words ++ (zs (fw + fk - (ks.getD i Tree.nil).words.length) ++ R)) fw fk ks i := by
  have := h.get hi
  rw [kidsSt_zero]
  unfold rowA rowS rowSt
  rw [show fw + fk - (ks.getD i Tree.nil).words.length = fw - (ks.getD i Tree.nil).words.length + ((ks.getD i Tree.nil).kids.length + (fk - (ks.getD i Tree.nil).kids.length)) by omega, zs_add, zs_add]
  simp only [List.append_assoc, zs]
theorem row_all {A R : List Int} {fw fk : Nat} {ks : List Tree} (h : Fit fw fk ks) {i : Nat} (hi : i < ks.length) (hR : R.length = (ks.length - (i + 1)) * (fw + fk)) :
    kidsSt (rowA A fw fk ks i) (rowS A R fw fk ks i) (ks.getD i Tree.nil).kids ((rowA A fw fk ks i).length + (ks.getD i Tree.nil).kids.length + (rowS A R fw fk ks i).length : Nat) (ks.getD i Tree.nil).kids.length = rowSt A R fw fk ks (i + 1) := by
  rw [kidsSt_all, rowS_len h hi hR, rowA_len h hi]
  unfold rowA rowS rowSt
  rw [take_snoc hi, rowsP_snoc, List.length_take, Nat.min_eq_left (Nat.le_of_lt hi)]
  simp only [List.append_assoc, zs, Int.natCast_add]
end Go.AM.Ythokdjgpdonhgaa

namespace Go.AM.Ythokdjgpdonhgaa
open Go.AM Go.Proofs
def encW (p : Ptr) : Int :=
  if p.kind = 1 then (if (-536870912 ≤ p.off ∧ p.off < 536870912) ∧ (0 ≤ p.data ∧ p.data ≤ 65535) ∧ 0 ≤ p.ptrs ∧ p.ptrs ≤ 65535 then 4 * (p.off % 1073741824) + 4294967296 * (p.data + 65536 * p.ptrs) else 0)
  else if p.kind = 2 then (if (-536870912 ≤ p.off ∧ p.off < 536870912) ∧ (0 ≤ p.code ∧ p.code ≤ 7) ∧ 0 ≤ p.count ∧ p.count ≤ 536870911 then 4 * (p.off % 1073741824) + 1 + 4294967296 * (p.code + 8 * p.count) else 0)
  else if p.kind = 3 then (if (0 ≤ p.off ∧ p.off ≤ 536870911) ∧ 0 ≤ p.segment ∧ p.segment ≤ 4294967295 then 8 * p.off + 2 + (if p.double = true then 4 else 0) + 4294967296 * p.segment else 0)
  else 0
def eqP (p q : Ptr) : Bool := p.kind == q.kind && (p.off == q.off && (p.data == q.data && (p.ptrs == q.ptrs && (p.code == q.code && (p.count == q.count && (p.segment == q.segment && (p.double == q.double && true)))))))
theorem eqP_self (p : Ptr) : eqP p p = true := by simp [eqP]
theorem off_nxt {o : Int} (h : -536870912 ≤ o ∧ o < 536870912) : (if 536870912 ≤ o % 1073741824 then o % 1073741824 - 1073741824 else o % 1073741824) = o := by
  split <;> omega
theorem dec_struct {o d p : Int} (ho : -536870912 ≤ o ∧ o < 536870912) (hd : 0 ≤ d ∧ d < 65536) (hp : 0 ≤ p ∧ p < 65536) (hz : ¬(o = 0 ∧ d = 0 ∧ p = 0)) :
    decP (4 * (o % 1073741824) + 0 + 4294967296 * (d + 65536 * p)) = ⟨1, o, d, p, 0, 0, 0, false⟩ := by
  have e0 : (4 * (o % 1073741824) + 0 + 4294967296 * (d + 65536 * p)) / 4 % 1073741824 = o % 1073741824 := by omega
  unfold decP offP
  rw [if_neg (by omega), if_pos (by omega), e0, off_nxt ho]
  congr 1 <;> omega
theorem dec_list {o c n : Int} (ho : -536870912 ≤ o ∧ o < 536870912) (hc : 0 ≤ c ∧ c < 8) (hn : 0 ≤ n ∧ n < 536870912) :
    decP (4 * (o % 1073741824) + 1 + 4294967296 * (c + 8 * n)) = ⟨2, o, 0, 0, c, n, 0, false⟩ := by
  have e0 : (4 * (o % 1073741824) + 1 + 4294967296 * (c + 8 * n)) / 4 % 1073741824 = o % 1073741824 := by omega
  unfold decP offP
  rw [if_neg (by omega), if_neg (by omega), if_pos (by omega), e0, off_nxt ho]
  congr 1 <;> omega
def pntW (a to : Int) (p : Ptr) : Int :=
  if p.kind = 1 then ptrP a (if p.data + p.ptrs = 0 then a else to) 0 (p.data + 65536 * p.ptrs) else ptrP a to 1 (p.code + 8 * p.count)
def pntOk (p : Ptr) : Prop :=
  (p.kind = 1 ∧ (0 ≤ p.data ∧ p.data < 65536) ∧ (0 ≤ p.ptrs ∧ p.ptrs < 65536) ∧ p.code = 0 ∧ p.count = 0 ∨ p.kind = 2 ∧ p.data = 0 ∧ p.ptrs = 0 ∧ (0 ≤ p.code ∧ p.code < 8) ∧ 0 ≤ p.count ∧ p.count < 536870912) ∧ p.segment = 0 ∧ p.double = false
def pntP (a to : Int) (p : Ptr) : Ptr := ⟨p.kind, if p.kind = 1 ∧ p.data + p.ptrs = 0 then -1 else to - a - 1, p.data, p.ptrs, p.code, p.count, p.segment, p.double⟩
theorem pnt_enc {a to : Int} {p : Ptr} (h : pntOk p) (h0 : 0 ≤ a) (h1 : a < to) (h2 : to < 1000000000) (h3 : to - a < 500000000) : encW (pntP a to p) = pntW a to p ∧ decP (encW (pntP a to p)) = pntP a to p := by
  obtain ⟨k, o, d, q, c, n, s, b⟩ := p
  obtain ⟨h, hs, hb⟩ := h
  dsimp only at h hs hb
  subst hs hb
  rcases h with ⟨rfl, hd, hq, rfl, rfl⟩ | ⟨rfl, rfl, rfl, hc, hn⟩
  · have eo : (if (1 : Int) = 1 ∧ d + q = 0 then (-1 : Int) else to - a - 1) = if d + q = 0 then -1 else to - a - 1 := by simp
    have e : encW (pntP a to ⟨1, o, d, q, 0, 0, 0, false⟩) = 4 * ((if d + q = 0 then -1 else to - a - 1) % 1073741824) + 0 + 4294967296 * (d + 65536 * q) := by
      unfold encW pntP
      dsimp only
      rw [eo, if_pos rfl, if_pos ⟨by split <;> omega, by omega, by omega⟩]
      omega
    constructor
    · rw [e]
      unfold pntW ptrP
      dsimp only
      rw [if_pos rfl]
      split <;> omega
    · rw [e]
      unfold pntP
      dsimp only
      rw [eo, dec_struct (by split <;> omega) hd hq (by split <;> omega)]
  · have eo : (if (2 : Int) = 1 ∧ (0 : Int) + 0 = 0 then (-1 : Int) else to - a - 1) = to - a - 1 := if_neg (fun h => absurd h.1 (by decide))
    have e : encW (pntP a to ⟨2, o, 0, 0, c, n, 0, false⟩) = 4 * ((to - a - 1) % 1073741824) + 1 + 4294967296 * (c + 8 * n) := by
      unfold encW pntP
      dsimp only
      rw [eo, if_neg (by decide), if_pos rfl, if_pos ⟨by omega, by omega, by omega⟩]
    constructor
    · rw [e]
      unfold pntW ptrP
      dsimp only
      rw [if_neg (by decide)]
    · rw [e]
      unfold pntP
      dsimp only
      rw [eo, dec_list (by omega) hc hn]
def kidzR (l : List Int) (a : Int) (t : Tree) : List Int :=
  l.take a.toNat ++ ((kidsP t.kids a l.length).1 ++ (l.drop (a.toNat + t.kids.length) ++ (kidsP t.kids a l.length).2))
def strR (l : List Int) (a n : Int) (t : Tree) : List Int :=
  l.take a.toNat ++ (t.words ++ (zs (n.toNat - t.words.length) ++ ((kidsP t.kids (a + n) l.length).1 ++ (l.drop (a.toNat + n.toNat + t.kids.length) ++ (kidsP t.kids (a + n) l.length).2))))
def zsAt (l : List Int) (a n : Nat) : Prop := ∃ A S, l = A ++ (zs n ++ S) ∧ A.length = a
theorem zsAt_split {l : List Int} {a n : Nat} (h : zsAt l a n) : l = l.take a ++ (zs n ++ l.drop (a + n)) ∧ (l.take a).length = a ∧ a + n ≤ l.length := by
  obtain ⟨A, S, rfl, rfl⟩ := h
  refine ⟨?_, ?_, ?_⟩
  · rw [List.take_left, show A.length + n = (A ++ zs n).length by simp, ← List.append_assoc, List.drop_left, List.append_assoc]
  · rw [List.take_left]
  · simp
theorem kidzR_zero {l : List Int} {a : Nat} {t : Tree} (h : zsAt l a t.kids.length) : kidsSt (l.take a) (l.drop (a + t.kids.length)) t.kids l.length 0 = l := by
  obtain ⟨h1, h2, h3⟩ := zsAt_split h
  rw [kidsSt_zero]
  exact h1.symm
theorem kidzR_len {l : List Int} {a : Nat} {t : Tree} (h : zsAt l a t.kids.length) : (l.take a).length + t.kids.length + (l.drop (a + t.kids.length)).length = l.length := by
  obtain ⟨h1, h2, h3⟩ := zsAt_split h
  rw [h2, List.length_drop]
  omega
theorem kidzR_step {l : List Int} {a : Nat} {t : Tree} (h : zsAt l a t.kids.length) {i : Nat} (hi : i < t.kids.length) :
    layP (kidsSt (l.take a) (l.drop (a + t.kids.length)) t.kids l.length i) ((a : Int) + i) (t.kids.getD i Tree.nil) = kidsSt (l.take a) (l.drop (a + t.kids.length)) t.kids l.length (i + 1) := by
  have := kids_step (A := l.take a) (S := l.drop (a + t.kids.length)) hi
  rw [kidzR_len h, (zsAt_split h).2.1] at this
  exact this
theorem kidzR_all {l : List Int} {a : Nat} {t : Tree} (h : zsAt l a t.kids.length) : kidsSt (l.take a) (l.drop (a + t.kids.length)) t.kids l.length t.kids.length = kidzR l a t := by
  rw [kidsSt_all, (zsAt_split h).2.1]
  rfl
end Go.AM.Ythokdjgpdonhgaa

namespace Go.AM.Ythokdjgpdonhgaa
open Go.AM Go.Proofs
theorem trim_cons (x : Int) (r : List Int) : trim (x :: r) = if trim r = [] ∧ x = 0 then [] else x :: trim r := by
  simp only [trim]
  split
  · rename_i h
    simp only [h]
    split <;> simp_all
  · rename_i h
    simp [h]
theorem trimK_cons (x : Tree) (r : List Tree) : trimK (x :: r) = if trimK r = [] ∧ x.kind = 0 then [] else x :: trimK r := by
  simp only [trimK]
  split
  · rename_i h
    simp only [h]
    split <;> simp_all
  · rename_i h
    simp [h]
theorem normT_nil : normT Tree.nil = Tree.nil := by simp [Tree.nil, normT]
theorem normT_kind (t : Tree) : (normT t).kind = t.kind := by
  obtain ⟨k, w, ks⟩ := t
  simp only [normT]
  split
  · rename_i h; simp [h, Tree.nil]
  · split
    · rename_i h; simp [h]
    · rfl
end Go.AM.Ythokdjgpdonhgaa

namespace Go.AM.Ythokdjgpdonhgaa
open Go.AM Go.Proofs
theorem trim_pre : ∀ (l : List Int), ∃ r, l = trim l ++ r
  | [] => ⟨[], rfl⟩
  | x :: r => by
    obtain ⟨s, hs⟩ := trim_pre r
    simp only [trim]
    split
    · rename_i e
      split
      · exact ⟨x :: r, rfl⟩
      · exact ⟨r, rfl⟩
    · rename_i y t e
      rw [e] at hs
      exact ⟨s, by rw [hs]; rfl⟩
theorem trimK_pre : ∀ (l : List Tree), ∃ r, l = trimK l ++ r
  | [] => ⟨[], rfl⟩
  | x :: r => by
    obtain ⟨s, hs⟩ := trimK_pre r
    simp only [trimK]
    split
    · rename_i e
      split
      · exact ⟨x :: r, rfl⟩
      · exact ⟨r, rfl⟩
    · rename_i y t e
      rw [e] at hs
      exact ⟨s, by rw [hs]; rfl⟩
theorem rightK_pre {list d : Int} : ∀ (a b : List Tree), rightK list (a ++ b) d = true → rightK list a d = true
  | [], _, _ => rfl
  | t :: r, b, h => by
    simp only [List.cons_append, rightK, Bool.and_eq_true] at h ⊢
    exact ⟨h.1, rightK_pre r b h.2⟩
theorem kidB_norm {list : Int} {t : Tree} (h : kidB list t = true) : kidB list (normT t) = true := by
  unfold kidB at h ⊢
  rw [normT_kind]
  split at h
  · rename_i hl
    rw [if_pos hl]
    simp only [Bool.and_eq_true, decide_eq_true_eq] at h ⊢
    obtain ⟨⟨h1, h2, h3⟩, h4⟩ := h
    obtain ⟨k, w, ks⟩ := t
    simp only [Tree.kind_mk, Tree.kids_mk, Tree.words_mk] at h1 h2 h3 h4
    have : ks = [] := List.length_eq_zero_iff.1 h2
    subst this
    subst h1
    exact ⟨⟨rfl, rfl, h3⟩, h4⟩
  · rename_i hl
    rw [if_neg hl]
    exact h
mutual
theorem rightT_norm : ∀ (t : Tree) (d : Int), rightT t d = true → rightT (normT t) d = true
  | .mk k w ks, d, h => by
    have ih := fun (list : Int) (h : rightK list ks (d - 1) = true) => rightK_norm ks list (d - 1) h
    simp only [rightT] at h
    simp only [normT]
    by_cases h0 : k = 0
    · rw [if_pos h0]; simp [Tree.nil, rightT]
    · rw [if_neg h0] at h ⊢
      by_cases h10 : k = 10
      · subst h10
        rw [if_pos rfl] at h
        rw [if_neg (by decide)]
        simp only [decide_eq_true_eq] at h
        simp only [rightT]
        rw [if_neg (by decide), if_pos trivial, normK_len]
        simpa using h
      · rw [if_neg h10] at h
        by_cases hd : d = 0
        · rw [if_pos hd] at h; cases h
        · rw [if_neg hd] at h
          by_cases h1 : k = 1
          · subst h1
            rw [if_pos rfl] at h
            rw [if_pos rfl]
            simp only [Bool.and_eq_true, decide_eq_true_eq] at h
            simp only [rightT]
            rw [if_neg (by decide), if_neg (by decide), if_neg hd, if_pos trivial]
            simp only [Bool.and_eq_true, decide_eq_true_eq]
            obtain ⟨r1, e1⟩ := trim_pre w
            obtain ⟨r2, e2⟩ := trimK_pre (normK ks)
            have l1 := congrArg List.length e1
            have l2 := congrArg List.length e2
            rw [normK_len] at l2
            simp only [List.length_append] at l1 l2
            refine ⟨⟨by omega, by omega⟩, ?_⟩
            have := ih 1 h.2
            rw [e2] at this
            exact rightK_pre _ _ this
          · rw [if_neg h1] at h ⊢
            simp only [Bool.and_eq_true, decide_eq_true_eq] at h
            simp only [rightT]
            rw [if_neg h0, if_neg h10, if_neg hd, if_neg h1, normK_len]
            simp only [Bool.and_eq_true, decide_eq_true_eq]
            exact ⟨h.1, ih k h.2⟩
theorem rightK_norm : ∀ (l : List Tree) (list d : Int), rightK list l d = true → rightK list (normK l) d = true
  | [], _, _, _ => rfl
  | t :: r, list, d, h => by
    simp only [rightK, Bool.and_eq_true] at h
    have h1 := rightT_norm t d h.1.2
    have h2 := rightK_norm r list d h.2
    simp only [normK, rightK, Bool.and_eq_true]
    exact ⟨⟨kidB_norm h.1.1, h1⟩, h2⟩
end
theorem trim_idem (l : List Int) : trim (trim l) = trim l := by
  induction l with
  | nil => rfl
  | cons x r ih =>
    rw [trim_cons]
    split
    · rfl
    · rename_i h
      rw [trim_cons, ih, if_neg h]
theorem trimK_idem (l : List Tree) : trimK (trimK l) = trimK l := by
  induction l with
  | nil => rfl
  | cons x r ih =>
    rw [trimK_cons]
    split
    · rfl
    · rename_i h
      rw [trimK_cons, ih, if_neg h]
def Normed : List Tree → Prop
  | [] => True
  | t :: r => normT t = t ∧ Normed r
theorem Normed.eq : ∀ {l : List Tree}, Normed l → normK l = l
  | [], _ => rfl
  | t :: r, h => by simp only [normK, h.1, Normed.eq h.2]
theorem Normed.trim : ∀ {l : List Tree}, Normed l → Normed (trimK l)
  | [], _ => trivial
  | t :: r, h => by
    rw [trimK_cons]
    split
    · trivial
    · exact ⟨h.1, Normed.trim h.2⟩
mutual
theorem normT_idem : ∀ (t : Tree), normT (normT t) = normT t
  | .mk k w ks => by
    have h := normK_normed ks
    by_cases h0 : k = 0
    · simp [normT, h0, Tree.nil]
    · by_cases h1 : k = 1
      · subst h1
        simp only [normT, if_neg h0, if_true, trim_idem, h.trim.eq, trimK_idem]
      · simp only [normT, if_neg h0, if_neg h1, h.eq]
theorem normK_normed : ∀ (ks : List Tree), Normed (normK ks)
  | [] => trivial
  | t :: r => ⟨normT_idem t, normK_normed r⟩
end
theorem rngK_app : ∀ {a b : List Tree}, rngK (a ++ b) ↔ rngK a ∧ rngK b
  | [], b => by simp [rngK]
  | t :: r, b => by simp only [List.cons_append, rngK]; rw [rngK_app (a := r), and_assoc]
mutual
theorem rng_norm : ∀ (t : Tree), rng t → rng (normT t)
  | .mk k w ks, h => by
    simp only [rng] at h
    obtain ⟨h1, h2, h3⟩ := h
    have h4 := rngK_norm ks h3
    simp only [normT]
    split
    · simp only [Tree.nil, rng, rngK]
      exact ⟨by decide, by simp, trivial⟩
    · split
      · obtain ⟨r1, e1⟩ := trim_pre w
        obtain ⟨r2, e2⟩ := trimK_pre (normK ks)
        simp only [rng]
        refine ⟨by decide, fun x hx => h2 x (by rw [e1]; exact List.mem_append.2 (Or.inl hx)), ?_⟩
        rw [e2] at h4
        exact (rngK_app.1 h4).1
      · simp only [rng]
        exact ⟨h1, h2, h4⟩
theorem rngK_norm : ∀ (l : List Tree), rngK l → rngK (normK l)
  | [], _ => trivial
  | t :: r, h => by
    simp only [rngK] at h
    have h1 := rng_norm t h.1
    have h2 := rngK_norm r h.2
    simp only [normK, rngK]
    exact ⟨h1, h2⟩
end
theorem mass_pos (t : Tree) : 1 ≤ mass t := by cases t; rw [mass]; omega
theorem fr_mass : ∀ (ks : List Tree), frW ks + frK ks + ks.length ≤ massK ks
  | [] => by simp [frW, frK, massK]
  | .mk k w l :: r => by
    have := fr_mass r
    have h : l.length ≤ massK l := by
      clear this
      induction l with
      | nil => simp
      | cons t l ih => rw [massK, List.length_cons]; have := mass_pos t; omega
    rw [frW, frK, massK, mass, List.length_cons]
    show max w.length _ + max l.length _ + _ ≤ _
    omega
theorem room_le (c : Int) (n : Nat) : (roomW c n).toNat ≤ n := by
  unfold roomW
  split
  · simp
  · rcases wd_div c with e | e | e | e | e | e
    · omega
    all_goals (rw [e]; omega)
theorem sq_le {a b c : Nat} (h : a + b ≤ c) : a * a + b * b ≤ c * c := by
  have h1 : a * a + b * b ≤ (a + b) * (a + b) := by
    rw [Nat.add_mul, Nat.mul_add, Nat.mul_add]
    omega
  exact Nat.le_trans h1 (Nat.mul_le_mul h h)
mutual
theorem size_mass : ∀ (t : Tree), sizeN t ≤ mass t * mass t
  | .mk k w ks => by
    have hk := sizeK_mass ks
    have hr := sizeR_mass ks
    have hf := fr_mass ks
    have e : ∀ W M : Nat, (W + M) * (W + M) = W * W + 2 * (W * M) + M * M := by
      intro W M
      rw [Nat.add_mul, Nat.mul_add, Nat.mul_add, Nat.mul_comm M W]
      omega
    have e1 : 1 + w.length ≤ (1 + w.length) * (1 + w.length) := Nat.le_mul_of_pos_left _ (by omega)
    have e2 : massK ks ≤ (1 + w.length) * massK ks := Nat.le_mul_of_pos_left _ (by omega)
    rw [sizeN, mass, e]
    split
    · omega
    · split
      · omega
      · split
        · have h1 : ks.length * (frW ks + frK ks) ≤ ks.length * (massK ks - ks.length) := Nat.mul_le_mul_left _ (by omega)
          have h2 : ks.length * (massK ks - ks.length) + (massK ks - ks.length) * (massK ks - ks.length) ≤ massK ks * massK ks := by
            rw [← Nat.add_mul]
            exact Nat.mul_le_mul (by omega) (by omega)
          omega
        · split
          · have := room_le (k - 2) ks.length
            omega
          · omega
theorem sizeK_mass : ∀ (ks : List Tree), sizeK ks ≤ massK ks * massK ks
  | [] => by simp [sizeK]
  | t :: r => by
    rw [sizeK, massK]
    have h1 := size_mass t
    have h2 := sizeK_mass r
    have := sq_le (Nat.le_refl (mass t + massK r))
    omega
theorem sizeR_mass : ∀ (ks : List Tree), sizeR ks ≤ (massK ks - ks.length) * (massK ks - ks.length)
  | [] => by simp [sizeR]
  | .mk k w l :: r => by
    rw [sizeR, massK, mass, List.length_cons]
    have h1 := sizeK_mass l
    have h2 := sizeR_mass r
    have hf := fr_mass r
    have := sq_le (a := massK l) (b := massK r - r.length) (c := 1 + w.length + massK l + massK r - (r.length + 1)) (by omega)
    omega
end
end Go.AM.Ythokdjgpdonhgaa

namespace Go.AM.Ythokdjgpdonhgaa
open Go.AM Go.Proofs
abbrev TrVR07G (p : Prop) : Prop := p → p
noncomputable section
def args58 : ArgL (Int × Int × Unit) := (.cons (aInt .i64) (.cons (aInt .u64) .nil))
def pre58 (a : Int × Int × Unit) : Prop := 0 ≤ a.2.1 ∧ a.2.1 < 18446744073709551616
noncomputable def res58 (a : Int × Int × Unit) : V U := .c (.bool (fits a.1 a.2.1))
noncomputable def spec58 : Fs U := fs args58 (fun a => [pre58 a]) res58
def args121 : ArgL (Int × Int × Unit) := (.cons (aInt .i64) (.cons (aInt .u64) .nil))
def pre121 (a : Int × Int × Unit) : Prop := 0 ≤ a.2.1 ∧ a.2.1 < 18446744073709551616
noncomputable def res121 (a : Int × Int × Unit) : V U := .c (.bool (fits a.1 a.2.1))
noncomputable def spec121 : Fs U := fs args121 (fun a => [pre121 a]) res121
def args116 : ArgL (Int × Unit) := (.cons (aInt .i64) .nil)
def pre116 (a : Int × Unit) : Prop := True
noncomputable def res116 (a : Int × Unit) : V U := .c (.bool (decide (2 ≤ a.1 ∧ a.1 ≤ 9)))
noncomputable def spec116 : Fs U := fs args116 (fun a => [pre116 a]) res116
def args117 : ArgL (Int × Tree × Unit) := (.cons (aInt .i64) (.cons (aEl .tree) .nil))
def pre117 (a : Int × Tree × Unit) : Prop := rng a.2.1
noncomputable def res117 (a : Int × Tree × Unit) : V U := .c (.bool (kidB a.1 a.2.1))
noncomputable def spec117 : Fs U := fs args117 (fun a => [pre117 a]) res117
def args94 : ArgL (Tree × Int × Unit) := (.cons (aEl .tree) (.cons (aInt .i64) .nil))
def pre94 (a : Tree × Int × Unit) : Prop := mass a.1 ≤ 1000000 ∧ rng a.1 ∧ 0 ≤ a.2.1 ∧ a.2.1 ≤ 1000
def mu94 (a : Tree × Int × Unit) : Nat := mass a.1
noncomputable def res94 (a : Tree × Int × Unit) : V U := .c (.bool (rightT a.1 a.2.1))
noncomputable def spec94 : Fs U := fs args94 (fun a => [pre94 a]) res94
def args71 : ArgL (Tree × Unit) := (.cons (aEl .tree) .nil)
def pre71 (a : Tree × Unit) : Prop := mass a.1 ≤ 1000000 ∧ rng a.1
noncomputable def res71 (a : Tree × Unit) : V U := .c (.bool (rightT a.1 64))
noncomputable def spec71 : Fs U := fs args71 (fun a => [pre71 a]) res71
def args43 : ArgL (Tree × Int × Unit) := (.cons (aEl .tree) (.cons (aInt .i64) .nil))
def pre43 (a : Tree × Int × Unit) : Prop := mass a.1 ≤ 1000000 ∧ rng a.1 ∧ 0 ≤ a.2.1 ∧ a.2.1 ≤ 1000
def mu43 (a : Tree × Int × Unit) : Nat := mass a.1
noncomputable def res43 (a : Tree × Int × Unit) : V U := .c (.bool (rightT a.1 a.2.1))
noncomputable def spec43 : Fs U := fs args43 (fun a => [pre43 a]) res43
noncomputable def know58 : List (FuncId × Fs U) := [(56, spec56)]
def lv58 : Lives U := fun i => match i with
  | 0 => ([(0, []), (1, [])], [])
  | 1 => ([(1, []), (5, [])], [])
  | 2 => ([(1, []), (5, []), (10, [])], [])
  | 3 => ([(4, [])], [])
  | 4 => ([(1, []), (5, []), (6, [])], [])
  | 5 => ([(1, []), (5, []), (6, []), (13, [])], [])
  | 6 => ([(1, []), (5, []), (6, [])], [])
  | 7 => ([(1, []), (5, []), (6, [])], [])
  | 8 => ([(4, [])], [])
  | _ => ([], [])
def head58_0 (c : Int) (n : Int) (x1 : Int) (x6 : Int) : LSt U := (⟨[(1, .c (.int .u64 x1)), (5, .c (.int .i64 (wd c))), (6, .c (.int .i64 x6))], [], []⟩ : LSt U)
abbrev a58_VR07G := awp cfg (know know58) (drawOk cfg (know know58)) Try.f58.ntmps lv58
abbrev s58_VR07G := seqK cfg (know know58) (drawOk cfg (know know58)) Try.f58.ntmps lv58
theorem vc58 (c : Int) (n : Int) (Q : AExit → LSt U → Prop) (h : (pre56 (c, ())) ∧ (((decide (((wd c) : Int) < 0)) = true → Q .ret (⟨[(4, .c (.bool false))], [], []⟩ : LSt U)) ∧ ((decide (((wd c) : Int) < 0)) = false → LoopWp (awp cfg (know know58) (drawOk cfg (know know58)) Try.f58.ntmps lv58 (cd Try.f58 [1, 1, 1, 0, 1, 0, 0])) (head58_0 c n n 0) (AExit.inBlock 0 (seqK cfg (know know58) (drawOk cfg (know know58)) Try.f58.ntmps lv58 (cd Try.f58 [1, 1, 1, 1]) Q))))) :
    awp cfg (know know58) (drawOk cfg (know know58)) Try.f58.ntmps lv58 (cd Try.f58 []) (⟨[(0, .c (.int .i64 c)), (1, .c (.int .u64 n))], [], []⟩ : LSt U) Q := by
  have e : (awp cfg (know know58) (drawOk cfg (know know58)) Try.f58.ntmps lv58 (cd Try.f58 []) (⟨[(0, .c (.int .i64 c)), (1, .c (.int .u64 n))], [], []⟩ : LSt U) Q) = (((pre56 (c, ())) ∧ ((((decide (((wd c) : Int) < 0)) = true → (Q .ret (⟨[(4, .c (.bool false))], [], []⟩ : LSt U))) ∧ ((decide (((wd c) : Int) < 0)) = false → (LoopWp (a58_VR07G (cd Try.f58 [1, 1, 1, 0, 1, 0, 0])) (head58_0 c n n 0) (AExit.inBlock 0 (s58_VR07G (cd Try.f58 [1, 1, 1, 1]) Q)))))))) := by kernel_rfl
  exact e.mpr ⟨h.1, ⟨fun c_7 => (h.2.1 c_7), fun c_7 => (h.2.2 c_7)⟩⟩
theorem vc58_l0 (c : Int) (n : Int) (x1 : Int) (x6 : Int) (N0 : LSt U → Prop) (Q : AExit → LSt U → Prop) (h : ((decide ((x6 : Int) < (wd c))) = true → ((2 : Int) ≠ 0) ∧ ((InR ((x6 : Int) + 1)) ∧ (N0 (head58_0 c n (IntKind.wrap .u64 (Int.tdiv x1 2)) ((x6 : Int) + 1))))) ∧ ((decide ((x6 : Int) < (wd c))) = false → Q .ret (⟨[(4, .c (.bool ((x1 : Int) == 0)))], [], []⟩ : LSt U))) :
    awp cfg (know know58) (drawOk cfg (know know58)) Try.f58.ntmps lv58 (cd Try.f58 [1, 1, 1, 0, 1, 0, 0]) (head58_0 c n x1 x6) (AExit.then N0 (AExit.inBlock 0 (seqK cfg (know know58) (drawOk cfg (know know58)) Try.f58.ntmps lv58 (cd Try.f58 [1, 1, 1, 1]) Q))) := by
  have e : (awp cfg (know know58) (drawOk cfg (know know58)) Try.f58.ntmps lv58 (cd Try.f58 [1, 1, 1, 0, 1, 0, 0]) (head58_0 c n x1 x6) (AExit.then N0 (AExit.inBlock 0 (seqK cfg (know know58) (drawOk cfg (know know58)) Try.f58.ntmps lv58 (cd Try.f58 [1, 1, 1, 1]) Q)))) = ((((decide ((x6 : Int) < (wd c))) = true → ((2 : Int) ≠ 0) ∧ ((InR ((x6 : Int) + 1)) ∧ (N0 (head58_0 c n (IntKind.wrap .u64 (Int.tdiv x1 2)) ((x6 : Int) + 1))))) ∧ ((decide ((x6 : Int) < (wd c))) = false → (Q .ret (⟨[(4, .c (.bool ((x1 : Int) == 0)))], [], []⟩ : LSt U))))) := by kernel_rfl
  exact e.mpr ⟨fun c_8 => ⟨(h.1 c_8).1, ⟨(h.1 c_8).2.1, (h.1 c_8).2.2⟩⟩, fun c_8 => (h.2 c_8)⟩
def Body58 (c : Int) (n : Int)  : Prop := awp cfg (know (know58)) (drawOk cfg (know (know58))) Try.f58.ntmps lv58 (cd Try.f58 []) (entry (args58.can (c, n, ())) []) (EndsQ cfg Try.f58.ntmps Try.f58.results.toList (res58 (c, n, ())) [])
theorem make58 (c56 : Contract Try.prog cfg 56 spec56) (hb : ∀ (c : Int) (n : Int) (_ : Unit), pre58 (c, n, ()) → Body58 c n) : Contract Try.prog cfg 58 spec58 :=
  contract_flat (l := [(56, spec56)]) cfgOk rfl (⟨c56, trivial⟩) lv58 Try.func58 rfl rfl 2 (fun _ => rfl) (by decide) (fun ⟨c, n, _⟩ => hb c n ())
noncomputable def know121 : List (FuncId × Fs U) := [(110, spec110)]
def lv121 : Lives U := fun i => match i with
  | 0 => ([(0, []), (1, [])], [])
  | 1 => ([(1, []), (5, []), (6, [])], [])
  | 2 => ([(4, [])], [])
  | _ => ([], [])
theorem vc121 (c : Int) (n : Int) (Q : AExit → LSt U → Prop) (h : (pre110 (c, ())) ∧ ((((decide (0 ≤ wd c)) && (!(((if wd c < 0 then 0 else wd c) : Int) == 64))) = true → (0 : Int) ≤ (if wd c < 0 then 0 else wd c)) ∧ (Q .ret (⟨[(4, .c (.bool (bif (decide (0 ≤ wd c)) then (bif (((if wd c < 0 then 0 else wd c) : Int) == 64) then true else (((Int.fdiv n (2 ^ (min (Int.toNat (if wd c < 0 then 0 else wd c)) (IntKind.bits .u64)))) : Int) == 0)) else false)))], [], []⟩ : LSt U)))) :
    awp cfg (know know121) (drawOk cfg (know know121)) Try.f121.ntmps lv121 (cd Try.f121 []) (⟨[(0, .c (.int .i64 c)), (1, .c (.int .u64 n))], [], []⟩ : LSt U) Q := by
  have e : (awp cfg (know know121) (drawOk cfg (know know121)) Try.f121.ntmps lv121 (cd Try.f121 []) (⟨[(0, .c (.int .i64 c)), (1, .c (.int .u64 n))], [], []⟩ : LSt U) Q) = (let zz0 := (((if wd c < 0 then 0 else wd c) : Int) == 64); ((pre110 (c, ())) ∧ ((TrVR07G ((decide (0 ≤ wd c)) = true)) ∧ (TrVR07G ((decide (0 ≤ wd c)) = true)) ∧ (TrVR07G (((decide (0 ≤ wd c)) && (!zz0)) = true)) ∧ (TrVR07G (((decide (0 ≤ wd c)) && (!zz0)) = true)) ∧ (((decide (0 ≤ wd c)) && (!zz0)) = true → (0 : Int) ≤ (if wd c < 0 then 0 else wd c)) ∧ (TrVR07G (((decide (0 ≤ wd c)) && (!zz0)) = true)) ∧ ((decide (0 ≤ wd c)) = true → (True → (decide (0 ≤ wd c)) = true)) ∧ ((decide (0 ≤ wd c)) = true → (zz0 = false → ((decide (0 ≤ wd c)) && (!zz0)) = true)) ∧ ((TrVR07G ((decide (0 ≤ wd c)) = true))) ∧ (Q .ret (⟨[(4, .c (.bool (bif (decide (0 ≤ wd c)) then (bif zz0 then true else (((Int.fdiv n (2 ^ (min (Int.toNat (if wd c < 0 then 0 else wd c)) (IntKind.bits .u64)))) : Int) == 0)) else false)))], [], []⟩ : LSt U))))) := by kernel_rfl
  exact e.mpr ⟨h.1, ⟨id, id, id, id, h.2.1, id, (by generalize (decide (0 ≤ wd c)) = b0; revert b0; decide), (by generalize (((if wd c < 0 then 0 else wd c) : Int) == 64) = b0; generalize (decide (0 ≤ wd c)) = b1; revert b0 b1; decide), (by generalize (decide (0 ≤ wd c)) = b0; revert b0; decide), h.2.2⟩⟩
def Body121 (c : Int) (n : Int)  : Prop := awp cfg (know (know121)) (drawOk cfg (know (know121))) Try.f121.ntmps lv121 (cd Try.f121 []) (entry (args121.can (c, n, ())) []) (EndsQ cfg Try.f121.ntmps Try.f121.results.toList (res121 (c, n, ())) [])
theorem make121 (c110 : Contract Try.prog cfg 110 spec110) (hb : ∀ (c : Int) (n : Int) (_ : Unit), pre121 (c, n, ()) → Body121 c n) : Contract Try.prog cfg 121 spec121 :=
  contract_flat (l := [(110, spec110)]) cfgOk rfl (⟨c110, trivial⟩) lv121 Try.func121 rfl rfl 2 (fun _ => rfl) (by decide) (fun ⟨c, n, _⟩ => hb c n ())
noncomputable def know116 : List (FuncId × Fs U) := []
def lv116 : Lives U := fun i => match i with
  | 0 => ([(0, [])], [])
  | 1 => ([(2, [])], [])
  | _ => ([], [])
theorem vc116 (k : Int) (Q : AExit → LSt U → Prop) (h : Q .ret (⟨[(2, .c (.bool (bif (decide ((2 : Int) ≤ k)) then (decide ((k : Int) ≤ 9)) else false)))], [], []⟩ : LSt U)) :
    awp cfg (know know116) (drawOk cfg (know know116)) Try.f116.ntmps lv116 (cd Try.f116 []) (⟨[(0, .c (.int .i64 k))], [], []⟩ : LSt U) Q := by
  have e : (awp cfg (know know116) (drawOk cfg (know know116)) Try.f116.ntmps lv116 (cd Try.f116 []) (⟨[(0, .c (.int .i64 k))], [], []⟩ : LSt U) Q) = (((TrVR07G ((decide ((2 : Int) ≤ k)) = true)) ∧ ((TrVR07G ((decide ((2 : Int) ≤ k)) = true))) ∧ (Q .ret (⟨[(2, .c (.bool (bif (decide ((2 : Int) ≤ k)) then (decide ((k : Int) ≤ 9)) else false)))], [], []⟩ : LSt U)))) := by kernel_rfl
  exact e.mpr ⟨id, (by generalize (decide ((2 : Int) ≤ k)) = b0; revert b0; decide), h⟩
def Body116 (k : Int)  : Prop := awp cfg (know (know116)) (drawOk cfg (know (know116))) Try.f116.ntmps lv116 (cd Try.f116 []) (entry (args116.can (k, ())) []) (EndsQ cfg Try.f116.ntmps Try.f116.results.toList (res116 (k, ())) [])
theorem make116 (hb : ∀ (k : Int) (_ : Unit), pre116 (k, ()) → Body116 k) : Contract Try.prog cfg 116 spec116 :=
  contract_flat (l := []) cfgOk rfl (trivial) lv116 Try.func116 rfl rfl 1 (fun _ => rfl) (by decide) (fun ⟨k, _⟩ => hb k ())
noncomputable def know117 : List (FuncId × Fs U) := [(107, spec107), (121, spec121)]
def lv117 : Lives U := fun i => match i with
  | 0 => ([(0, []), (3, [])], [((.loc 3), [])])
  | 1 => ([(0, []), (3, []), (5, [])], [((.loc 3), [])])
  | 2 => ([(4, [])], [])
  | 3 => ([(3, []), (32, [])], [((.loc 3), [])])
  | 4 => ([(4, [])], [])
  | 5 => ([(4, [])], [])
  | _ => ([], [])
theorem vc117 (l : Int) (t : Tree) (Q : AExit → LSt U → Prop) (h : (pre107 (l, ())) ∧ (((decide (2 ≤ l ∧ l ≤ 7)) = true → ((bif (bif (((Tree.kind t) : Int) == 10) then ((((Tree.kids t).length : Int) : Int) == 0) else false) then ((((Tree.words t).length : Int) : Int) == 1) else false) = true → InR ((l : Int) - 2)) ∧ ((bif (bif (((Tree.kind t) : Int) == 10) then ((((Tree.kids t).length : Int) : Int) == 0) else false) then ((((Tree.words t).length : Int) : Int) == 1) else false) = true → (0 : Int) ≤ 0 ∧ 0 < ((Tree.words t).length : Int)) ∧ ((bif (bif (((Tree.kind t) : Int) == 10) then ((((Tree.kids t).length : Int) : Int) == 0) else false) then ((((Tree.words t).length : Int) : Int) == 1) else false) = true → pre121 (((l : Int) - 2), (List.getD (Tree.words t) (Int.toNat 0) (0 : Int)), ())) ∧ (Q .ret (⟨[(4, .c (.bool (bif (bif (bif (((Tree.kind t) : Int) == 10) then ((((Tree.kids t).length : Int) : Int) == 0) else false) then ((((Tree.words t).length : Int) : Int) == 1) else false) then (fits ((l : Int) - 2) (List.getD (Tree.words t) (Int.toNat 0) (0 : Int))) else false)))], [], []⟩ : LSt U))) ∧ ((decide (2 ≤ l ∧ l ≤ 7)) = false → (((l : Int) == 9) = true → Q .ret (⟨[(4, .c (.bool (((Tree.kind t) : Int) == 1)))], [], []⟩ : LSt U)) ∧ (((l : Int) == 9) = false → Q .ret (⟨[(4, .c (.bool (((Tree.kind t) : Int) != 10)))], [], []⟩ : LSt U))))) :
    awp cfg (know know117) (drawOk cfg (know know117)) Try.f117.ntmps lv117 (cd Try.f117 []) (⟨[(0, .c (.int .i64 l)), (1, .agg [.int .i64 (Tree.kind t), .slice (U := U) .u64 (Tree.words t) .unk, .slice (U := U) .tree (Tree.kids t) .unk])], [], []⟩ : LSt U) Q := by
  have e : (awp cfg (know know117) (drawOk cfg (know know117)) Try.f117.ntmps lv117 (cd Try.f117 []) (⟨[(0, .c (.int .i64 l)), (1, .agg [.int .i64 (Tree.kind t), .slice (U := U) .u64 (Tree.words t) .unk, .slice (U := U) .tree (Tree.kids t) .unk])], [], []⟩ : LSt U) Q) = (let zz1 := (bif ((Tree.kind t) == 10) then (((Tree.kids t).length : Int) == 0) else false); let zz0 := (bif zz1 then (((Tree.words t).length : Int) == 1) else false); ((pre107 (l, ())) ∧ (((decide (2 ≤ l ∧ l ≤ 7)) = true → (TrVR07G (((Tree.kind t) == 10) = true)) ∧ (TrVR07G (((Tree.kind t) == 10) = true)) ∧ (TrVR07G (((Tree.kind t) == 10) = true)) ∧ ((TrVR07G (((Tree.kind t) == 10) = true))) ∧ (TrVR07G (zz1 = true)) ∧ (TrVR07G (zz1 = true)) ∧ (TrVR07G (zz1 = true)) ∧ ((TrVR07G (zz1 = true))) ∧ (TrVR07G (zz0 = true)) ∧ (zz0 = true → InR ((l : Int) - 2)) ∧ (TrVR07G (zz0 = true)) ∧ (TrVR07G (zz0 = true)) ∧ (zz0 = true → (0 : Int) ≤ 0 ∧ 0 < ((Tree.words t).length : Int)) ∧ (TrVR07G (zz0 = true)) ∧ (TrVR07G (zz0 = true)) ∧ (TrVR07G (zz0 = true)) ∧ (zz0 = true → pre121 (((l : Int) - 2), (List.getD (Tree.words t) (Int.toNat 0) (0 : Int)), ())) ∧ ((TrVR07G (zz0 = true))) ∧ (Q .ret (⟨[(4, .c (.bool (bif zz0 then (fits ((l : Int) - 2) (List.getD (Tree.words t) (Int.toNat 0) (0 : Int))) else false)))], [], []⟩ : LSt U))) ∧ ((decide (2 ≤ l ∧ l ≤ 7)) = false → ((((l : Int) == 9) = true → (Q .ret (⟨[(4, .c (.bool ((Tree.kind t) == 1)))], [], []⟩ : LSt U))) ∧ (((l : Int) == 9) = false → (Q .ret (⟨[(4, .c (.bool ((Tree.kind t) != 10)))], [], []⟩ : LSt U)))))))) := by kernel_rfl
  exact e.mpr ⟨h.1, ⟨fun c_10 => ⟨id, id, id, (by generalize (((Tree.kind t) : Int) == 10) = b0; revert b0; decide), id, id, id, (by generalize ((((Tree.kids t).length : Int) : Int) == 0) = b0; generalize (((Tree.kind t) : Int) == 10) = b1; revert b0 b1; decide), id, (h.2.1 c_10).1, id, id, (h.2.1 c_10).2.1, id, id, id, (h.2.1 c_10).2.2.1, (by generalize ((((Tree.words t).length : Int) : Int) == 1) = b0; generalize ((((Tree.kids t).length : Int) : Int) == 0) = b1; generalize (((Tree.kind t) : Int) == 10) = b2; revert b0 b1 b2; decide), (h.2.1 c_10).2.2.2⟩, fun c_10 => ⟨fun c_11 => ((h.2.2 c_10).1 c_11), fun c_11 => ((h.2.2 c_10).2 c_11)⟩⟩⟩
def Body117 (l : Int) (t : Tree)  : Prop := awp cfg (know (know117)) (drawOk cfg (know (know117))) Try.f117.ntmps lv117 (cd Try.f117 []) (entry (args117.can (l, t, ())) []) (EndsQ cfg Try.f117.ntmps Try.f117.results.toList (res117 (l, t, ())) [])
theorem make117 (c107 : Contract Try.prog cfg 107 spec107) (c121 : Contract Try.prog cfg 121 spec121) (hb : ∀ (l : Int) (t : Tree) (_ : Unit), pre117 (l, t, ()) → Body117 l t) : Contract Try.prog cfg 117 spec117 :=
  contract_flat (l := [(107, spec107), (121, spec121)]) cfgOk rfl (⟨c107, c121, trivial⟩) lv117 Try.func117 rfl rfl 2 (fun _ => rfl) (by decide) (fun ⟨l, t, _⟩ => hb l t ())
noncomputable def know94 (N : Nat) : List (FuncId × Fs U) := (94, fs args94 (fun a => [pre94 a, mu94 a < N]) res94) :: [(116, spec116), (117, spec117)]
def lv94 : Lives U := fun i => match i with
  | 0 => ([(1, []), (2, [])], [((.loc 2), [])])
  | 1 => ([(1, []), (2, []), (8, [])], [((.loc 2), [])])
  | 2 => ([(4, [])], [])
  | 3 => ([(1, []), (2, []), (22, [])], [((.loc 2), [])])
  | 4 => ([(4, [])], [])
  | 5 => ([(1, []), (2, []), (36, [])], [((.loc 2), [])])
  | 6 => ([(4, [])], [])
  | 7 => ([(1, []), (2, []), (39, [])], [((.loc 2), [])])
  | 8 => ([(1, []), (2, []), (52, [])], [((.loc 2), [])])
  | 9 => ([(4, [])], [])
  | 10 => ([(1, []), (2, []), (53, [])], [((.loc 2), [])])
  | 11 => ([(4, [])], [])
  | 12 => ([(1, []), (2, []), (71, []), (72, []), (73, [])], [((.loc 2), [])])
  | 13 => ([(1, []), (2, []), (71, []), (72, []), (73, []), (74, [])], [((.loc 2), [])])
  | 14 => ([(1, []), (2, []), (6, []), (71, []), (72, []), (73, [])], [((.loc 2), []), ((.loc 6), [])])
  | 15 => ([(1, []), (2, []), (6, []), (7, []), (71, []), (72, []), (73, [])], [((.loc 2), []), ((.loc 6), [])])
  | 16 => ([(1, []), (2, []), (6, []), (7, []), (71, []), (72, []), (73, []), (82, [])], [((.loc 2), []), ((.loc 6), [])])
  | 17 => ([(1, []), (2, []), (6, []), (7, []), (71, []), (72, []), (73, [])], [((.loc 2), []), ((.loc 6), [])])
  | 18 => ([(1, []), (2, []), (71, []), (72, []), (73, []), (95, [])], [((.loc 2), [])])
  | 19 => ([(4, [])], [])
  | 20 => ([(1, []), (2, []), (71, []), (72, []), (73, [])], [((.loc 2), [])])
  | 21 => ([(4, [])], [])
  | _ => ([], [])
def head94_0 (t : Tree) (d : Int) (x73 : Int) : LSt U := (⟨[(1, .c (.int .i64 d)), (2, .ptr (.loc 2) 0), (71, .c (.slice (U := U) .tree (Tree.kids t) .unk)), (72, .c (.int .i64 ((Tree.kids t).length : Int))), (73, .c (.int .i64 x73))], [((.loc 2), [.int .i64 (Tree.kind t), .slice (U := U) .u64 (Tree.words t) .unk, .slice (U := U) .tree (Tree.kids t) .unk])], []⟩ : LSt U)
abbrev a94_VR07G (N : Nat) := awp cfg (know (know94 N)) (drawOk cfg (know (know94 N))) Try.f94.ntmps lv94
abbrev s94_VR07G (N : Nat) := seqK cfg (know (know94 N)) (drawOk cfg (know (know94 N))) Try.f94.ntmps lv94
theorem vc94 (N : Nat) (t : Tree) (d : Int) (Q : AExit → LSt U → Prop) (h : ((((Tree.kind t) : Int) == 0) = true → Q .ret (⟨[(4, .c (.bool (bif ((((Tree.words t).length : Int) : Int) == 0) then ((((Tree.kids t).length : Int) : Int) == 0) else false)))], [], []⟩ : LSt U)) ∧ ((((Tree.kind t) : Int) == 0) = false → ((((Tree.kind t) : Int) == 10) = true → Q .ret (⟨[(4, .c (.bool (bif ((((Tree.words t).length : Int) : Int) == 1) then ((((Tree.kids t).length : Int) : Int) == 0) else false)))], [], []⟩ : LSt U)) ∧ ((((Tree.kind t) : Int) == 10) = false → (((d : Int) == 0) = true → Q .ret (⟨[(4, .c (.bool false))], [], []⟩ : LSt U)) ∧ (((d : Int) == 0) = false → ((((Tree.kind t) : Int) == 1) = true → ((bif (decide ((65536 : Int) ≤ ((Tree.words t).length : Int))) then true else (decide ((65536 : Int) ≤ ((Tree.kids t).length : Int)))) = true → Q .ret (⟨[(4, .c (.bool false))], [], []⟩ : LSt U)) ∧ ((bif (decide ((65536 : Int) ≤ ((Tree.words t).length : Int))) then true else (decide ((65536 : Int) ≤ ((Tree.kids t).length : Int)))) = false → LoopWp (awp cfg (know (know94 N)) (drawOk cfg (know (know94 N))) Try.f94.ntmps lv94 (cd Try.f94 [1, 1, 0, 1, 0, 0])) (head94_0 t d 0) (AExit.inBlock 1 (seqK cfg (know (know94 N)) (drawOk cfg (know (know94 N))) Try.f94.ntmps lv94 (cd Try.f94 [1, 1, 1]) Q)))) ∧ ((((Tree.kind t) : Int) == 1) = false → (pre116 ((Tree.kind t), ())) ∧ (((bif (bif (!(decide (2 ≤ (Tree.kind t) ∧ (Tree.kind t) ≤ 9))) then true else (decide ((0 : Int) < ((Tree.words t).length : Int)))) then true else (decide ((1048576 : Int) ≤ ((Tree.kids t).length : Int)))) = true → Q .ret (⟨[(4, .c (.bool false))], [], []⟩ : LSt U)) ∧ ((bif (bif (!(decide (2 ≤ (Tree.kind t) ∧ (Tree.kind t) ≤ 9))) then true else (decide ((0 : Int) < ((Tree.words t).length : Int)))) then true else (decide ((1048576 : Int) ≤ ((Tree.kids t).length : Int)))) = false → LoopWp (awp cfg (know (know94 N)) (drawOk cfg (know (know94 N))) Try.f94.ntmps lv94 (cd Try.f94 [1, 1, 0, 1, 0, 0])) (head94_0 t d 0) (AExit.inBlock 1 (seqK cfg (know (know94 N)) (drawOk cfg (know (know94 N))) Try.f94.ntmps lv94 (cd Try.f94 [1, 1, 1]) Q))))))))) :
    awp cfg (know (know94 N)) (drawOk cfg (know (know94 N))) Try.f94.ntmps lv94 (cd Try.f94 []) (⟨[(0, .agg [.int .i64 (Tree.kind t), .slice (U := U) .u64 (Tree.words t) .unk, .slice (U := U) .tree (Tree.kids t) .unk]), (1, .c (.int .i64 d))], [], []⟩ : LSt U) Q := by
  have e : (awp cfg (know (know94 N)) (drawOk cfg (know (know94 N))) Try.f94.ntmps lv94 (cd Try.f94 []) (⟨[(0, .agg [.int .i64 (Tree.kind t), .slice (U := U) .u64 (Tree.words t) .unk, .slice (U := U) .tree (Tree.kids t) .unk]), (1, .c (.int .i64 d))], [], []⟩ : LSt U) Q) = (let zz6 := (decide ((65536 : Int) ≤ ((Tree.kids t).length : Int))); let zz5 := (decide ((1048576 : Int) ≤ ((Tree.kids t).length : Int))); let zz4 := (((Tree.words t).length : Int) == 1); let zz3 := (((Tree.words t).length : Int) == 0); let zz2 := (!(decide (2 ≤ (Tree.kind t) ∧ (Tree.kind t) ≤ 9))); let zz1 := (decide ((65536 : Int) ≤ ((Tree.words t).length : Int))); let zz0 := (bif zz2 then true else (decide ((0 : Int) < ((Tree.words t).length : Int)))); (((((Tree.kind t) == 0) = true → (TrVR07G (zz3 = true)) ∧ (TrVR07G (zz3 = true)) ∧ (TrVR07G (zz3 = true)) ∧ ((TrVR07G (zz3 = true))) ∧ (Q .ret (⟨[(4, .c (.bool (bif zz3 then (((Tree.kids t).length : Int) == 0) else false)))], [], []⟩ : LSt U))) ∧ (((Tree.kind t) == 0) = false → ((((Tree.kind t) == 10) = true → (TrVR07G (zz4 = true)) ∧ (TrVR07G (zz4 = true)) ∧ (TrVR07G (zz4 = true)) ∧ ((TrVR07G (zz4 = true))) ∧ (Q .ret (⟨[(4, .c (.bool (bif zz4 then (((Tree.kids t).length : Int) == 0) else false)))], [], []⟩ : LSt U))) ∧ (((Tree.kind t) == 10) = false → ((((d : Int) == 0) = true → (Q .ret (⟨[(4, .c (.bool false))], [], []⟩ : LSt U))) ∧ (((d : Int) == 0) = false → ((((Tree.kind t) == 1) = true → (TrVR07G ((!zz1) = true)) ∧ (TrVR07G ((!zz1) = true)) ∧ (TrVR07G ((!zz1) = true)) ∧ ((zz1 = false → (!zz1) = true)) ∧ (((bif zz1 then true else zz6) = true → (Q .ret (⟨[(4, .c (.bool false))], [], []⟩ : LSt U))) ∧ ((bif zz1 then true else zz6) = false → (LoopWp (a94_VR07G N (cd Try.f94 [1, 1, 0, 1, 0, 0])) (head94_0 t d 0) (AExit.inBlock 1 (s94_VR07G N (cd Try.f94 [1, 1, 1]) Q)))))) ∧ (((Tree.kind t) == 1) = false → (pre116 ((Tree.kind t), ())) ∧ (TrVR07G ((!zz2) = true)) ∧ (TrVR07G ((!zz2) = true)) ∧ (TrVR07G ((!zz2) = true)) ∧ ((zz2 = false → (!zz2) = true)) ∧ (TrVR07G ((!zz0) = true)) ∧ (TrVR07G ((!zz0) = true)) ∧ (TrVR07G ((!zz0) = true)) ∧ ((zz0 = false → (!zz0) = true)) ∧ (((bif zz0 then true else zz5) = true → (Q .ret (⟨[(4, .c (.bool false))], [], []⟩ : LSt U))) ∧ ((bif zz0 then true else zz5) = false → (LoopWp (a94_VR07G N (cd Try.f94 [1, 1, 0, 1, 0, 0])) (head94_0 t d 0) (AExit.inBlock 1 (s94_VR07G N (cd Try.f94 [1, 1, 1]) Q))))))))))))))) := by kernel_rfl
  exact e.mpr ⟨fun c_12 => ⟨id, id, id, (by generalize ((((Tree.words t).length : Int) : Int) == 0) = b0; revert b0; decide), (h.1 c_12)⟩, fun c_12 => ⟨fun c_13 => ⟨id, id, id, (by generalize ((((Tree.words t).length : Int) : Int) == 1) = b0; revert b0; decide), ((h.2 c_12).1 c_13)⟩, fun c_13 => ⟨fun c_14 => (((h.2 c_12).2 c_13).1 c_14), fun c_14 => ⟨fun c_15 => ⟨id, id, id, (by generalize (decide ((65536 : Int) ≤ ((Tree.words t).length : Int))) = b0; revert b0; decide), ⟨fun c_16 => (((((h.2 c_12).2 c_13).2 c_14).1 c_15).1 c_16), fun c_16 => (((((h.2 c_12).2 c_13).2 c_14).1 c_15).2 c_16)⟩⟩, fun c_15 => ⟨((((h.2 c_12).2 c_13).2 c_14).2 c_15).1, id, id, id, (by generalize (decide (2 ≤ (Tree.kind t) ∧ (Tree.kind t) ≤ 9)) = b0; revert b0; decide), id, id, id, (by generalize (decide ((0 : Int) < ((Tree.words t).length : Int))) = b0; generalize (decide (2 ≤ (Tree.kind t) ∧ (Tree.kind t) ≤ 9)) = b1; revert b0 b1; decide), ⟨fun c_17 => (((((h.2 c_12).2 c_13).2 c_14).2 c_15).2.1 c_17), fun c_17 => (((((h.2 c_12).2 c_13).2 c_14).2 c_15).2.2 c_17)⟩⟩⟩⟩⟩⟩
theorem vc94_l0 (N : Nat) (t : Tree) (d : Int) (x73 : Int) (N0 : LSt U → Prop) (Q : AExit → LSt U → Prop) (h : ((decide ((x73 : Int) < ((Tree.kids t).length : Int))) = true → ((0 : Int) ≤ x73 ∧ x73 < ((Tree.kids t).length : Int)) ∧ (((((Tree.kind t) : Int) != 1) = true → (pre117 ((Tree.kind t), (Tree.mk (Tree.kind (List.getD (Tree.kids t) (Int.toNat x73) Tree.nil)) (Tree.words (List.getD (Tree.kids t) (Int.toNat x73) Tree.nil)) (Tree.kids (List.getD (Tree.kids t) (Int.toNat x73) Tree.nil))), ())) ∧ (((!(!(kidB (Tree.kind t) (Tree.mk (Tree.kind (List.getD (Tree.kids t) (Int.toNat x73) Tree.nil)) (Tree.words (List.getD (Tree.kids t) (Int.toNat x73) Tree.nil)) (Tree.kids (List.getD (Tree.kids t) (Int.toNat x73) Tree.nil)))))) = true → InR ((d : Int) - 1)) ∧ ((!(!(kidB (Tree.kind t) (Tree.mk (Tree.kind (List.getD (Tree.kids t) (Int.toNat x73) Tree.nil)) (Tree.words (List.getD (Tree.kids t) (Int.toNat x73) Tree.nil)) (Tree.kids (List.getD (Tree.kids t) (Int.toNat x73) Tree.nil)))))) = true → pre94 ((Tree.mk (Tree.kind (List.getD (Tree.kids t) (Int.toNat x73) Tree.nil)) (Tree.words (List.getD (Tree.kids t) (Int.toNat x73) Tree.nil)) (Tree.kids (List.getD (Tree.kids t) (Int.toNat x73) Tree.nil))), ((d : Int) - 1), ())) ∧ ((!(!(kidB (Tree.kind t) (Tree.mk (Tree.kind (List.getD (Tree.kids t) (Int.toNat x73) Tree.nil)) (Tree.words (List.getD (Tree.kids t) (Int.toNat x73) Tree.nil)) (Tree.kids (List.getD (Tree.kids t) (Int.toNat x73) Tree.nil)))))) = true → mu94 ((Tree.mk (Tree.kind (List.getD (Tree.kids t) (Int.toNat x73) Tree.nil)) (Tree.words (List.getD (Tree.kids t) (Int.toNat x73) Tree.nil)) (Tree.kids (List.getD (Tree.kids t) (Int.toNat x73) Tree.nil))), ((d : Int) - 1), ()) < N) ∧ (((bif (!(kidB (Tree.kind t) (Tree.mk (Tree.kind (List.getD (Tree.kids t) (Int.toNat x73) Tree.nil)) (Tree.words (List.getD (Tree.kids t) (Int.toNat x73) Tree.nil)) (Tree.kids (List.getD (Tree.kids t) (Int.toNat x73) Tree.nil))))) then true else (!(rightT (Tree.mk (Tree.kind (List.getD (Tree.kids t) (Int.toNat x73) Tree.nil)) (Tree.words (List.getD (Tree.kids t) (Int.toNat x73) Tree.nil)) (Tree.kids (List.getD (Tree.kids t) (Int.toNat x73) Tree.nil))) ((d : Int) - 1)))) = true → Q .ret (⟨[(4, .c (.bool false))], [], []⟩ : LSt U)) ∧ ((bif (!(kidB (Tree.kind t) (Tree.mk (Tree.kind (List.getD (Tree.kids t) (Int.toNat x73) Tree.nil)) (Tree.words (List.getD (Tree.kids t) (Int.toNat x73) Tree.nil)) (Tree.kids (List.getD (Tree.kids t) (Int.toNat x73) Tree.nil))))) then true else (!(rightT (Tree.mk (Tree.kind (List.getD (Tree.kids t) (Int.toNat x73) Tree.nil)) (Tree.words (List.getD (Tree.kids t) (Int.toNat x73) Tree.nil)) (Tree.kids (List.getD (Tree.kids t) (Int.toNat x73) Tree.nil))) ((d : Int) - 1)))) = false → (InR ((x73 : Int) + 1)) ∧ (N0 (head94_0 t d ((x73 : Int) + 1))))))) ∧ ((((Tree.kind t) : Int) != 1) = false → ((!(!(((Tree.kind (List.getD (Tree.kids t) (Int.toNat x73) Tree.nil)) : Int) != 10))) = true → InR ((d : Int) - 1)) ∧ ((!(!(((Tree.kind (List.getD (Tree.kids t) (Int.toNat x73) Tree.nil)) : Int) != 10))) = true → pre94 ((Tree.mk (Tree.kind (List.getD (Tree.kids t) (Int.toNat x73) Tree.nil)) (Tree.words (List.getD (Tree.kids t) (Int.toNat x73) Tree.nil)) (Tree.kids (List.getD (Tree.kids t) (Int.toNat x73) Tree.nil))), ((d : Int) - 1), ())) ∧ ((!(!(((Tree.kind (List.getD (Tree.kids t) (Int.toNat x73) Tree.nil)) : Int) != 10))) = true → mu94 ((Tree.mk (Tree.kind (List.getD (Tree.kids t) (Int.toNat x73) Tree.nil)) (Tree.words (List.getD (Tree.kids t) (Int.toNat x73) Tree.nil)) (Tree.kids (List.getD (Tree.kids t) (Int.toNat x73) Tree.nil))), ((d : Int) - 1), ()) < N) ∧ (((bif (!(((Tree.kind (List.getD (Tree.kids t) (Int.toNat x73) Tree.nil)) : Int) != 10)) then true else (!(rightT (Tree.mk (Tree.kind (List.getD (Tree.kids t) (Int.toNat x73) Tree.nil)) (Tree.words (List.getD (Tree.kids t) (Int.toNat x73) Tree.nil)) (Tree.kids (List.getD (Tree.kids t) (Int.toNat x73) Tree.nil))) ((d : Int) - 1)))) = true → Q .ret (⟨[(4, .c (.bool false))], [], []⟩ : LSt U)) ∧ ((bif (!(((Tree.kind (List.getD (Tree.kids t) (Int.toNat x73) Tree.nil)) : Int) != 10)) then true else (!(rightT (Tree.mk (Tree.kind (List.getD (Tree.kids t) (Int.toNat x73) Tree.nil)) (Tree.words (List.getD (Tree.kids t) (Int.toNat x73) Tree.nil)) (Tree.kids (List.getD (Tree.kids t) (Int.toNat x73) Tree.nil))) ((d : Int) - 1)))) = false → (InR ((x73 : Int) + 1)) ∧ (N0 (head94_0 t d ((x73 : Int) + 1)))))))) ∧ ((decide ((x73 : Int) < ((Tree.kids t).length : Int))) = false → Q .ret (⟨[(4, .c (.bool true))], [], []⟩ : LSt U))) :
    awp cfg (know (know94 N)) (drawOk cfg (know (know94 N))) Try.f94.ntmps lv94 (cd Try.f94 [1, 1, 0, 1, 0, 0]) (head94_0 t d x73) (AExit.then N0 (AExit.inBlock 1 (seqK cfg (know (know94 N)) (drawOk cfg (know (know94 N))) Try.f94.ntmps lv94 (cd Try.f94 [1, 1, 1]) Q))) := by
  have e : (awp cfg (know (know94 N)) (drawOk cfg (know (know94 N))) Try.f94.ntmps lv94 (cd Try.f94 [1, 1, 0, 1, 0, 0]) (head94_0 t d x73) (AExit.then N0 (AExit.inBlock 1 (seqK cfg (know (know94 N)) (drawOk cfg (know (know94 N))) Try.f94.ntmps lv94 (cd Try.f94 [1, 1, 1]) Q)))) = (let zz2 := (!(rightT (Tree.mk (Tree.kind (List.getD (Tree.kids t) (Int.toNat x73) Tree.nil)) (Tree.words (List.getD (Tree.kids t) (Int.toNat x73) Tree.nil)) (Tree.kids (List.getD (Tree.kids t) (Int.toNat x73) Tree.nil))) ((d : Int) - 1))); let zz1 := (!(((Tree.kind (List.getD (Tree.kids t) (Int.toNat x73) Tree.nil)) : Int) != 10)); let zz0 := (!(kidB (Tree.kind t) (Tree.mk (Tree.kind (List.getD (Tree.kids t) (Int.toNat x73) Tree.nil)) (Tree.words (List.getD (Tree.kids t) (Int.toNat x73) Tree.nil)) (Tree.kids (List.getD (Tree.kids t) (Int.toNat x73) Tree.nil))))); (((decide ((x73 : Int) < ((Tree.kids t).length : Int))) = true → ((0 : Int) ≤ x73 ∧ x73 < ((Tree.kids t).length : Int)) ∧ ((((((Tree.kind t) != 1) = true → (pre117 ((Tree.kind t), (Tree.mk (Tree.kind (List.getD (Tree.kids t) (Int.toNat x73) Tree.nil)) (Tree.words (List.getD (Tree.kids t) (Int.toNat x73) Tree.nil)) (Tree.kids (List.getD (Tree.kids t) (Int.toNat x73) Tree.nil))), ())) ∧ ((TrVR07G ((!zz0) = true)) ∧ ((!zz0) = true → InR ((d : Int) - 1)) ∧ (TrVR07G ((!zz0) = true)) ∧ (TrVR07G ((!zz0) = true)) ∧ ((!zz0) = true → pre94 ((Tree.mk (Tree.kind (List.getD (Tree.kids t) (Int.toNat x73) Tree.nil)) (Tree.words (List.getD (Tree.kids t) (Int.toNat x73) Tree.nil)) (Tree.kids (List.getD (Tree.kids t) (Int.toNat x73) Tree.nil))), ((d : Int) - 1), ())) ∧ ((!zz0) = true → mu94 ((Tree.mk (Tree.kind (List.getD (Tree.kids t) (Int.toNat x73) Tree.nil)) (Tree.words (List.getD (Tree.kids t) (Int.toNat x73) Tree.nil)) (Tree.kids (List.getD (Tree.kids t) (Int.toNat x73) Tree.nil))), ((d : Int) - 1), ()) < N) ∧ (TrVR07G ((!zz0) = true)) ∧ ((zz0 = false → (!zz0) = true)) ∧ (((bif zz0 then true else zz2) = true → (Q .ret (⟨[(4, .c (.bool false))], [], []⟩ : LSt U))) ∧ ((bif zz0 then true else zz2) = false → (InR ((x73 : Int) + 1)) ∧ (N0 (head94_0 t d ((x73 : Int) + 1))))))) ∧ (((Tree.kind t) != 1) = false → (TrVR07G ((!zz1) = true)) ∧ ((!zz1) = true → InR ((d : Int) - 1)) ∧ (TrVR07G ((!zz1) = true)) ∧ (TrVR07G ((!zz1) = true)) ∧ ((!zz1) = true → pre94 ((Tree.mk (Tree.kind (List.getD (Tree.kids t) (Int.toNat x73) Tree.nil)) (Tree.words (List.getD (Tree.kids t) (Int.toNat x73) Tree.nil)) (Tree.kids (List.getD (Tree.kids t) (Int.toNat x73) Tree.nil))), ((d : Int) - 1), ())) ∧ ((!zz1) = true → mu94 ((Tree.mk (Tree.kind (List.getD (Tree.kids t) (Int.toNat x73) Tree.nil)) (Tree.words (List.getD (Tree.kids t) (Int.toNat x73) Tree.nil)) (Tree.kids (List.getD (Tree.kids t) (Int.toNat x73) Tree.nil))), ((d : Int) - 1), ()) < N) ∧ (TrVR07G ((!zz1) = true)) ∧ ((zz1 = false → (!zz1) = true)) ∧ (((bif zz1 then true else zz2) = true → (Q .ret (⟨[(4, .c (.bool false))], [], []⟩ : LSt U))) ∧ ((bif zz1 then true else zz2) = false → (InR ((x73 : Int) + 1)) ∧ (N0 (head94_0 t d ((x73 : Int) + 1)))))))))) ∧ ((decide ((x73 : Int) < ((Tree.kids t).length : Int))) = false → (Q .ret (⟨[(4, .c (.bool true))], [], []⟩ : LSt U))))) := by kernel_rfl
  exact e.mpr ⟨fun c_18 => ⟨(h.1 c_18).1, ⟨fun c_19 => ⟨((h.1 c_18).2.1 c_19).1, ⟨id, ((h.1 c_18).2.1 c_19).2.1, id, id, ((h.1 c_18).2.1 c_19).2.2.1, ((h.1 c_18).2.1 c_19).2.2.2.1, id, (by generalize (kidB (Tree.kind t) (Tree.mk (Tree.kind (List.getD (Tree.kids t) (Int.toNat x73) Tree.nil)) (Tree.words (List.getD (Tree.kids t) (Int.toNat x73) Tree.nil)) (Tree.kids (List.getD (Tree.kids t) (Int.toNat x73) Tree.nil)))) = b0; revert b0; decide), ⟨fun c_20 => (((h.1 c_18).2.1 c_19).2.2.2.2.1 c_20), fun c_20 => ⟨(((h.1 c_18).2.1 c_19).2.2.2.2.2 c_20).1, (((h.1 c_18).2.1 c_19).2.2.2.2.2 c_20).2⟩⟩⟩⟩, fun c_19 => ⟨id, ((h.1 c_18).2.2 c_19).1, id, id, ((h.1 c_18).2.2 c_19).2.1, ((h.1 c_18).2.2 c_19).2.2.1, id, (by generalize (((Tree.kind (List.getD (Tree.kids t) (Int.toNat x73) Tree.nil)) : Int) != 10) = b0; revert b0; decide), ⟨fun c_21 => (((h.1 c_18).2.2 c_19).2.2.2.1 c_21), fun c_21 => ⟨(((h.1 c_18).2.2 c_19).2.2.2.2 c_21).1, (((h.1 c_18).2.2 c_19).2.2.2.2 c_21).2⟩⟩⟩⟩⟩, fun c_18 => (h.2 c_18)⟩
def Body94 (N : Nat) (t : Tree) (d : Int)  : Prop := awp cfg (know (know94 N)) (drawOk cfg (know (know94 N))) Try.f94.ntmps lv94 (cd Try.f94 []) (entry (args94.can (t, d, ())) []) (EndsQ cfg Try.f94.ntmps Try.f94.results.toList (res94 (t, d, ())) [])
theorem make94 (c116 : Contract Try.prog cfg 116 spec116) (c117 : Contract Try.prog cfg 117 spec117) (hb : ∀ (N : Nat) (t : Tree) (d : Int) (_ : Unit), pre94 (t, d, ()) → mu94 (t, d, ()) < N + 1 → Body94 N t d) : Contract Try.prog cfg 94 spec94 :=
  contract_rec (μ := mu94) (l := [(116, spec116), (117, spec117)]) cfgOk rfl (⟨c116, c117, trivial⟩) lv94 Try.func94 rfl rfl 2 (fun _ => rfl) (by decide) (fun N ⟨t, d, _⟩ => hb N t d ())
noncomputable def know71 : List (FuncId × Fs U) := [(94, spec94)]
def lv71 : Lives U := fun i => match i with
  | 0 => ([(1, [])], [((.loc 1), [])])
  | 1 => ([(2, [])], [])
  | _ => ([], [])
theorem vc71 (t : Tree) (Q : AExit → LSt U → Prop) (h : (pre94 ((Tree.mk (Tree.kind t) (Tree.words t) (Tree.kids t)), 64, ())) ∧ (Q .ret (⟨[(2, .c (.bool (rightT (Tree.mk (Tree.kind t) (Tree.words t) (Tree.kids t)) 64)))], [], []⟩ : LSt U))) :
    awp cfg (know know71) (drawOk cfg (know know71)) Try.f71.ntmps lv71 (cd Try.f71 []) (⟨[(0, .agg [.int .i64 (Tree.kind t), .slice (U := U) .u64 (Tree.words t) .unk, .slice (U := U) .tree (Tree.kids t) .unk])], [], []⟩ : LSt U) Q := by
  have e : (awp cfg (know know71) (drawOk cfg (know know71)) Try.f71.ntmps lv71 (cd Try.f71 []) (⟨[(0, .agg [.int .i64 (Tree.kind t), .slice (U := U) .u64 (Tree.words t) .unk, .slice (U := U) .tree (Tree.kids t) .unk])], [], []⟩ : LSt U) Q) = (type_of% h) := by kernel_rfl
  exact e.mpr ⟨h.1, h.2⟩
def Body71 (t : Tree)  : Prop := awp cfg (know (know71)) (drawOk cfg (know (know71))) Try.f71.ntmps lv71 (cd Try.f71 []) (entry (args71.can (t, ())) []) (EndsQ cfg Try.f71.ntmps Try.f71.results.toList (res71 (t, ())) [])
theorem make71 (c94 : Contract Try.prog cfg 94 spec94) (hb : ∀ (t : Tree) (_ : Unit), pre71 (t, ()) → Body71 t) : Contract Try.prog cfg 71 spec71 :=
  contract_flat (l := [(94, spec94)]) cfgOk rfl (⟨c94, trivial⟩) lv71 Try.func71 rfl rfl 1 (fun _ => rfl) (by decide) (fun ⟨t, _⟩ => hb t ())
noncomputable def know43 (N : Nat) : List (FuncId × Fs U) := (43, fs args43 (fun a => [pre43 a, mu43 a < N]) res43) :: [(58, spec58)]
def lv43 : Lives U := fun i => match i with
  | 0 => ([(1, []), (2, [])], [((.loc 2), [])])
  | 1 => ([(1, []), (2, []), (10, [])], [((.loc 2), [])])
  | 2 => ([(4, [])], [])
  | 3 => ([(1, []), (2, []), (23, [])], [((.loc 2), [])])
  | 4 => ([(4, [])], [])
  | 5 => ([(1, []), (2, []), (68, [])], [((.loc 2), [])])
  | 6 => ([(4, [])], [])
  | 7 => ([(1, []), (2, []), (77, [])], [((.loc 2), [])])
  | 8 => ([(4, [])], [])
  | 9 => ([(1, []), (2, []), (5, [])], [((.loc 2), [])])
  | 10 => ([(1, []), (2, []), (5, []), (82, [])], [((.loc 2), [])])
  | 11 => ([(1, []), (2, []), (5, [])], [((.loc 2), [])])
  | 12 => ([(1, []), (2, []), (5, []), (6, [])], [((.loc 2), []), ((.loc 6), [])])
  | 13 => ([(1, []), (2, []), (5, []), (6, []), (94, [])], [((.loc 2), []), ((.loc 6), [])])
  | 14 => ([(4, [])], [])
  | 15 => ([(1, []), (2, []), (5, []), (6, []), (7, [])], [((.loc 2), []), ((.loc 6), [])])
  | 16 => ([(1, []), (2, []), (5, []), (131, [])], [((.loc 2), [])])
  | 17 => ([(4, [])], [])
  | 18 => ([(4, [])], [])
  | _ => ([], [])
def head43_0 (t : Tree) (d : Int) (x5 : Int) : LSt U := (⟨[(1, .c (.int .i64 d)), (2, .ptr (.loc 2) 0), (5, .c (.int .i64 x5))], [((.loc 2), [.int .i64 (Tree.kind t), .slice (U := U) .u64 (Tree.words t) .unk, .slice (U := U) .tree (Tree.kids t) .unk])], []⟩ : LSt U)
abbrev a43_VR07G (N : Nat) := awp cfg (know (know43 N)) (drawOk cfg (know (know43 N))) Try.f43.ntmps lv43
abbrev s43_VR07G (N : Nat) := seqK cfg (know (know43 N)) (drawOk cfg (know (know43 N))) Try.f43.ntmps lv43
theorem vc43 (N : Nat) (t : Tree) (d : Int) (Q : AExit → LSt U → Prop) (h : ((((Tree.kind t) : Int) == 0) = true → Q .ret (⟨[(4, .c (.bool (bif ((((Tree.words t).length : Int) : Int) == 0) then ((((Tree.kids t).length : Int) : Int) == 0) else false)))], [], []⟩ : LSt U)) ∧ ((((Tree.kind t) : Int) == 0) = false → ((((Tree.kind t) : Int) == 10) = true → Q .ret (⟨[(4, .c (.bool (bif ((((Tree.words t).length : Int) : Int) == 1) then ((((Tree.kids t).length : Int) : Int) == 0) else false)))], [], []⟩ : LSt U)) ∧ ((((Tree.kind t) : Int) == 10) = false → ((bif (bif (bif (bif (bif (decide (((Tree.kind t) : Int) < 0)) then true else (decide ((10 : Int) < (Tree.kind t)))) then true else ((d : Int) == 0)) then true else (decide ((65536 : Int) ≤ ((Tree.words t).length : Int)))) then true else (bif (((Tree.kind t) : Int) == 1) then (decide ((65536 : Int) ≤ ((Tree.kids t).length : Int))) else false)) then true else (decide ((1048576 : Int) ≤ ((Tree.kids t).length : Int)))) = true → Q .ret (⟨[(4, .c (.bool false))], [], []⟩ : LSt U)) ∧ ((bif (bif (bif (bif (bif (decide (((Tree.kind t) : Int) < 0)) then true else (decide ((10 : Int) < (Tree.kind t)))) then true else ((d : Int) == 0)) then true else (decide ((65536 : Int) ≤ ((Tree.words t).length : Int)))) then true else (bif (((Tree.kind t) : Int) == 1) then (decide ((65536 : Int) ≤ ((Tree.kids t).length : Int))) else false)) then true else (decide ((1048576 : Int) ≤ ((Tree.kids t).length : Int)))) = false → ((bif (decide ((1 : Int) < (Tree.kind t))) then (decide ((0 : Int) < ((Tree.words t).length : Int))) else false) = true → Q .ret (⟨[(4, .c (.bool false))], [], []⟩ : LSt U)) ∧ ((bif (decide ((1 : Int) < (Tree.kind t))) then (decide ((0 : Int) < ((Tree.words t).length : Int))) else false) = false → LoopWp (awp cfg (know (know43 N)) (drawOk cfg (know (know43 N))) Try.f43.ntmps lv43 (cd Try.f43 [1, 1, 1, 1, 1, 0, 1, 0, 0])) (head43_0 t d 0) (AExit.inBlock 0 (seqK cfg (know (know43 N)) (drawOk cfg (know (know43 N))) Try.f43.ntmps lv43 (cd Try.f43 [1, 1, 1, 1, 1, 1]) Q))))))) :
    awp cfg (know (know43 N)) (drawOk cfg (know (know43 N))) Try.f43.ntmps lv43 (cd Try.f43 []) (⟨[(0, .agg [.int .i64 (Tree.kind t), .slice (U := U) .u64 (Tree.words t) .unk, .slice (U := U) .tree (Tree.kids t) .unk]), (1, .c (.int .i64 d))], [], []⟩ : LSt U) Q := by
  have e : (awp cfg (know (know43 N)) (drawOk cfg (know (know43 N))) Try.f43.ntmps lv43 (cd Try.f43 []) (⟨[(0, .agg [.int .i64 (Tree.kind t), .slice (U := U) .u64 (Tree.words t) .unk, .slice (U := U) .tree (Tree.kids t) .unk]), (1, .c (.int .i64 d))], [], []⟩ : LSt U) Q) = (let zz7 := (decide ((1048576 : Int) ≤ ((Tree.kids t).length : Int))); let zz6 := (decide ((Tree.kind t) < 0)); let zz5 := (((Tree.words t).length : Int) == 1); let zz4 := (((Tree.words t).length : Int) == 0); let zz3 := (decide ((1 : Int) < (Tree.kind t))); let zz2 := (bif ((Tree.kind t) == 1) then (decide ((65536 : Int) ≤ ((Tree.kids t).length : Int))) else false); let zz1 := (bif zz6 then true else (decide ((10 : Int) < (Tree.kind t)))); let zz0 := (bif (bif zz1 then true else ((d : Int) == 0)) then true else (decide ((65536 : Int) ≤ ((Tree.words t).length : Int)))); (((((Tree.kind t) == 0) = true → (TrVR07G (zz4 = true)) ∧ (TrVR07G (zz4 = true)) ∧ (TrVR07G (zz4 = true)) ∧ ((TrVR07G (zz4 = true))) ∧ (Q .ret (⟨[(4, .c (.bool (bif zz4 then (((Tree.kids t).length : Int) == 0) else false)))], [], []⟩ : LSt U))) ∧ (((Tree.kind t) == 0) = false → ((((Tree.kind t) == 10) = true → (TrVR07G (zz5 = true)) ∧ (TrVR07G (zz5 = true)) ∧ (TrVR07G (zz5 = true)) ∧ ((TrVR07G (zz5 = true))) ∧ (Q .ret (⟨[(4, .c (.bool (bif zz5 then (((Tree.kids t).length : Int) == 0) else false)))], [], []⟩ : LSt U))) ∧ (((Tree.kind t) == 10) = false → (TrVR07G ((!zz6) = true)) ∧ (TrVR07G ((!zz6) = true)) ∧ ((zz6 = false → (!zz6) = true)) ∧ (TrVR07G ((!zz1) = true)) ∧ ((zz1 = false → (!zz1) = true)) ∧ (TrVR07G ((!(bif zz1 then true else ((d : Int) == 0))) = true)) ∧ (TrVR07G ((!(bif zz1 then true else ((d : Int) == 0))) = true)) ∧ (TrVR07G ((!(bif zz1 then true else ((d : Int) == 0))) = true)) ∧ (((bif zz1 then true else ((d : Int) == 0)) = false → (!(bif zz1 then true else ((d : Int) == 0))) = true)) ∧ (TrVR07G ((!zz0) = true)) ∧ (TrVR07G ((!zz0) = true)) ∧ (TrVR07G ((!zz0) = true)) ∧ (TrVR07G (((!zz0) && ((Tree.kind t) == 1)) = true)) ∧ (TrVR07G (((!zz0) && ((Tree.kind t) == 1)) = true)) ∧ (TrVR07G (((!zz0) && ((Tree.kind t) == 1)) = true)) ∧ ((!zz0) = true → (True → (!zz0) = true)) ∧ ((!zz0) = true → (((Tree.kind t) == 1) = true → ((!zz0) && ((Tree.kind t) == 1)) = true)) ∧ ((zz0 = false → (!zz0) = true)) ∧ (TrVR07G ((!(bif zz0 then true else zz2)) = true)) ∧ (TrVR07G ((!(bif zz0 then true else zz2)) = true)) ∧ (TrVR07G ((!(bif zz0 then true else zz2)) = true)) ∧ (((bif zz0 then true else zz2) = false → (!(bif zz0 then true else zz2)) = true)) ∧ (((bif (bif zz0 then true else zz2) then true else zz7) = true → (Q .ret (⟨[(4, .c (.bool false))], [], []⟩ : LSt U))) ∧ ((bif (bif zz0 then true else zz2) then true else zz7) = false → (TrVR07G (zz3 = true)) ∧ (TrVR07G (zz3 = true)) ∧ (TrVR07G (zz3 = true)) ∧ ((TrVR07G (zz3 = true))) ∧ (((bif zz3 then (decide ((0 : Int) < ((Tree.words t).length : Int))) else false) = true → (Q .ret (⟨[(4, .c (.bool false))], [], []⟩ : LSt U))) ∧ ((bif zz3 then (decide ((0 : Int) < ((Tree.words t).length : Int))) else false) = false → (LoopWp (a43_VR07G N (cd Try.f43 [1, 1, 1, 1, 1, 0, 1, 0, 0])) (head43_0 t d 0) (AExit.inBlock 0 (s43_VR07G N (cd Try.f43 [1, 1, 1, 1, 1, 1]) Q))))))))))))) := by kernel_rfl
  exact e.mpr ⟨fun c_22 => ⟨id, id, id, (by generalize ((((Tree.words t).length : Int) : Int) == 0) = b0; revert b0; decide), (h.1 c_22)⟩, fun c_22 => ⟨fun c_23 => ⟨id, id, id, (by generalize ((((Tree.words t).length : Int) : Int) == 1) = b0; revert b0; decide), ((h.2 c_22).1 c_23)⟩, fun c_23 => ⟨id, id, (by generalize (decide (((Tree.kind t) : Int) < 0)) = b0; revert b0; decide), id, (by generalize (decide ((10 : Int) < (Tree.kind t))) = b0; generalize (decide (((Tree.kind t) : Int) < 0)) = b1; revert b0 b1; decide), id, id, id, (by generalize (decide ((10 : Int) < (Tree.kind t))) = b0; generalize (decide (((Tree.kind t) : Int) < 0)) = b1; generalize ((d : Int) == 0) = b2; revert b0 b1 b2; decide), id, id, id, id, id, id, (by generalize (decide ((65536 : Int) ≤ ((Tree.words t).length : Int))) = b0; generalize (decide ((10 : Int) < (Tree.kind t))) = b1; generalize (decide (((Tree.kind t) : Int) < 0)) = b2; generalize ((d : Int) == 0) = b3; revert b0 b1 b2 b3; decide), (by generalize (decide ((65536 : Int) ≤ ((Tree.words t).length : Int))) = b0; generalize (decide ((10 : Int) < (Tree.kind t))) = b1; generalize (decide (((Tree.kind t) : Int) < 0)) = b2; generalize (((Tree.kind t) : Int) == 1) = b3; generalize ((d : Int) == 0) = b4; revert b0 b1 b2 b3 b4; decide), (by generalize (decide ((65536 : Int) ≤ ((Tree.words t).length : Int))) = b0; generalize (decide ((10 : Int) < (Tree.kind t))) = b1; generalize (decide (((Tree.kind t) : Int) < 0)) = b2; generalize ((d : Int) == 0) = b3; revert b0 b1 b2 b3; decide), id, id, id, (by generalize (decide ((65536 : Int) ≤ ((Tree.words t).length : Int))) = b0; generalize (decide ((65536 : Int) ≤ ((Tree.kids t).length : Int))) = b1; generalize (decide ((10 : Int) < (Tree.kind t))) = b2; generalize (decide (((Tree.kind t) : Int) < 0)) = b3; generalize (((Tree.kind t) : Int) == 1) = b4; generalize ((d : Int) == 0) = b5; revert b0 b1 b2 b3 b4 b5; decide), ⟨fun c_24 => (((h.2 c_22).2 c_23).1 c_24), fun c_24 => ⟨id, id, id, (by generalize (decide ((1 : Int) < (Tree.kind t))) = b0; revert b0; decide), ⟨fun c_25 => ((((h.2 c_22).2 c_23).2 c_24).1 c_25), fun c_25 => ((((h.2 c_22).2 c_23).2 c_24).2 c_25)⟩⟩⟩⟩⟩⟩
theorem vc43_l0 (N : Nat) (t : Tree) (d : Int) (x5 : Int) (N0 : LSt U → Prop) (Q : AExit → LSt U → Prop) (h : ((decide ((x5 : Int) < ((Tree.kids t).length : Int))) = true → ((0 : Int) ≤ x5 ∧ x5 < ((Tree.kids t).length : Int)) ∧ ((InR ((d : Int) - 1)) ∧ (pre43 ((Tree.mk (Tree.kind (List.getD (Tree.kids t) (Int.toNat x5) Tree.nil)) (Tree.words (List.getD (Tree.kids t) (Int.toNat x5) Tree.nil)) (Tree.kids (List.getD (Tree.kids t) (Int.toNat x5) Tree.nil))), ((d : Int) - 1), ())) ∧ (mu43 ((Tree.mk (Tree.kind (List.getD (Tree.kids t) (Int.toNat x5) Tree.nil)) (Tree.words (List.getD (Tree.kids t) (Int.toNat x5) Tree.nil)) (Tree.kids (List.getD (Tree.kids t) (Int.toNat x5) Tree.nil))), ((d : Int) - 1), ()) < N) ∧ (((!(rightT (Tree.mk (Tree.kind (List.getD (Tree.kids t) (Int.toNat x5) Tree.nil)) (Tree.words (List.getD (Tree.kids t) (Int.toNat x5) Tree.nil)) (Tree.kids (List.getD (Tree.kids t) (Int.toNat x5) Tree.nil))) ((d : Int) - 1))) = true → Q .ret (⟨[(4, .c (.bool false))], [], []⟩ : LSt U)) ∧ ((!(rightT (Tree.mk (Tree.kind (List.getD (Tree.kids t) (Int.toNat x5) Tree.nil)) (Tree.words (List.getD (Tree.kids t) (Int.toNat x5) Tree.nil)) (Tree.kids (List.getD (Tree.kids t) (Int.toNat x5) Tree.nil))) ((d : Int) - 1))) = false → (((!(bif ((bif (decide ((2 : Int) ≤ (Tree.kind t))) then (decide (((Tree.kind t) : Int) ≤ 7)) else false) != (((Tree.kind (List.getD (Tree.kids t) (Int.toNat x5) Tree.nil)) : Int) == 10)) then true else (bif (((Tree.kind t) : Int) == 9) then (((Tree.kind (List.getD (Tree.kids t) (Int.toNat x5) Tree.nil)) : Int) != 1) else false))) && (bif (decide ((2 : Int) ≤ (Tree.kind t))) then (decide (((Tree.kind t) : Int) ≤ 7)) else false)) = true → InR (((Tree.kind t) : Int) - 2)) ∧ (((!(bif ((bif (decide ((2 : Int) ≤ (Tree.kind t))) then (decide (((Tree.kind t) : Int) ≤ 7)) else false) != (((Tree.kind (List.getD (Tree.kids t) (Int.toNat x5) Tree.nil)) : Int) == 10)) then true else (bif (((Tree.kind t) : Int) == 9) then (((Tree.kind (List.getD (Tree.kids t) (Int.toNat x5) Tree.nil)) : Int) != 1) else false))) && (bif (decide ((2 : Int) ≤ (Tree.kind t))) then (decide (((Tree.kind t) : Int) ≤ 7)) else false)) = true → (0 : Int) ≤ 0 ∧ 0 < ((Tree.words (List.getD (Tree.kids t) (Int.toNat x5) Tree.nil)).length : Int)) ∧ (((!(bif ((bif (decide ((2 : Int) ≤ (Tree.kind t))) then (decide (((Tree.kind t) : Int) ≤ 7)) else false) != (((Tree.kind (List.getD (Tree.kids t) (Int.toNat x5) Tree.nil)) : Int) == 10)) then true else (bif (((Tree.kind t) : Int) == 9) then (((Tree.kind (List.getD (Tree.kids t) (Int.toNat x5) Tree.nil)) : Int) != 1) else false))) && (bif (decide ((2 : Int) ≤ (Tree.kind t))) then (decide (((Tree.kind t) : Int) ≤ 7)) else false)) = true → pre58 ((((Tree.kind t) : Int) - 2), (List.getD (Tree.words (List.getD (Tree.kids t) (Int.toNat x5) Tree.nil)) (Int.toNat 0) (0 : Int)), ())) ∧ (((bif (bif ((bif (decide ((2 : Int) ≤ (Tree.kind t))) then (decide (((Tree.kind t) : Int) ≤ 7)) else false) != (((Tree.kind (List.getD (Tree.kids t) (Int.toNat x5) Tree.nil)) : Int) == 10)) then true else (bif (((Tree.kind t) : Int) == 9) then (((Tree.kind (List.getD (Tree.kids t) (Int.toNat x5) Tree.nil)) : Int) != 1) else false)) then true else (bif (bif (decide ((2 : Int) ≤ (Tree.kind t))) then (decide (((Tree.kind t) : Int) ≤ 7)) else false) then (!(fits (((Tree.kind t) : Int) - 2) (List.getD (Tree.words (List.getD (Tree.kids t) (Int.toNat x5) Tree.nil)) (Int.toNat 0) (0 : Int)))) else false)) = true → Q .ret (⟨[(4, .c (.bool false))], [], []⟩ : LSt U)) ∧ ((bif (bif ((bif (decide ((2 : Int) ≤ (Tree.kind t))) then (decide (((Tree.kind t) : Int) ≤ 7)) else false) != (((Tree.kind (List.getD (Tree.kids t) (Int.toNat x5) Tree.nil)) : Int) == 10)) then true else (bif (((Tree.kind t) : Int) == 9) then (((Tree.kind (List.getD (Tree.kids t) (Int.toNat x5) Tree.nil)) : Int) != 1) else false)) then true else (bif (bif (decide ((2 : Int) ≤ (Tree.kind t))) then (decide (((Tree.kind t) : Int) ≤ 7)) else false) then (!(fits (((Tree.kind t) : Int) - 2) (List.getD (Tree.words (List.getD (Tree.kids t) (Int.toNat x5) Tree.nil)) (Int.toNat 0) (0 : Int)))) else false)) = false → (InR ((x5 : Int) + 1)) ∧ (N0 (head43_0 t d ((x5 : Int) + 1))))))))) ∧ ((decide ((x5 : Int) < ((Tree.kids t).length : Int))) = false → Q .ret (⟨[(4, .c (.bool true))], [], []⟩ : LSt U))) :
    awp cfg (know (know43 N)) (drawOk cfg (know (know43 N))) Try.f43.ntmps lv43 (cd Try.f43 [1, 1, 1, 1, 1, 0, 1, 0, 0]) (head43_0 t d x5) (AExit.then N0 (AExit.inBlock 0 (seqK cfg (know (know43 N)) (drawOk cfg (know (know43 N))) Try.f43.ntmps lv43 (cd Try.f43 [1, 1, 1, 1, 1, 1]) Q))) := by
  have e : (awp cfg (know (know43 N)) (drawOk cfg (know (know43 N))) Try.f43.ntmps lv43 (cd Try.f43 [1, 1, 1, 1, 1, 0, 1, 0, 0]) (head43_0 t d x5) (AExit.then N0 (AExit.inBlock 0 (seqK cfg (know (know43 N)) (drawOk cfg (know (know43 N))) Try.f43.ntmps lv43 (cd Try.f43 [1, 1, 1, 1, 1, 1]) Q)))) = (let zz5 := (decide ((2 : Int) ≤ (Tree.kind t))); let zz4 := (!(fits ((Tree.kind t) - 2) (List.getD (Tree.words (List.getD (Tree.kids t) (Int.toNat x5) Tree.nil)) (Int.toNat 0) (0 : Int)))); let zz3 := (!(rightT (Tree.mk (Tree.kind (List.getD (Tree.kids t) (Int.toNat x5) Tree.nil)) (Tree.words (List.getD (Tree.kids t) (Int.toNat x5) Tree.nil)) (Tree.kids (List.getD (Tree.kids t) (Int.toNat x5) Tree.nil))) ((d : Int) - 1))); let zz2 := (((Tree.kind (List.getD (Tree.kids t) (Int.toNat x5) Tree.nil)) : Int) == 10); let zz1 := (bif zz5 then (decide ((Tree.kind t) ≤ 7)) else false); let zz0 := (bif (zz1 != zz2) then true else (bif ((Tree.kind t) == 9) then (((Tree.kind (List.getD (Tree.kids t) (Int.toNat x5) Tree.nil)) : Int) != 1) else false)); (((decide ((x5 : Int) < ((Tree.kids t).length : Int))) = true → ((0 : Int) ≤ x5 ∧ x5 < ((Tree.kids t).length : Int)) ∧ ((InR ((d : Int) - 1)) ∧ (pre43 ((Tree.mk (Tree.kind (List.getD (Tree.kids t) (Int.toNat x5) Tree.nil)) (Tree.words (List.getD (Tree.kids t) (Int.toNat x5) Tree.nil)) (Tree.kids (List.getD (Tree.kids t) (Int.toNat x5) Tree.nil))), ((d : Int) - 1), ())) ∧ (mu43 ((Tree.mk (Tree.kind (List.getD (Tree.kids t) (Int.toNat x5) Tree.nil)) (Tree.words (List.getD (Tree.kids t) (Int.toNat x5) Tree.nil)) (Tree.kids (List.getD (Tree.kids t) (Int.toNat x5) Tree.nil))), ((d : Int) - 1), ()) < N) ∧ ((zz3 = true → (Q .ret (⟨[(4, .c (.bool false))], [], []⟩ : LSt U))) ∧ (zz3 = false → (TrVR07G (zz5 = true)) ∧ (TrVR07G (zz5 = true)) ∧ ((TrVR07G (zz5 = true))) ∧ ((TrVR07G ((!(zz1 != zz2)) = true)) ∧ (TrVR07G ((!(zz1 != zz2)) = true)) ∧ (TrVR07G ((!(zz1 != zz2)) = true)) ∧ (TrVR07G (((!(zz1 != zz2)) && ((Tree.kind t) == 9)) = true)) ∧ (TrVR07G (((!(zz1 != zz2)) && ((Tree.kind t) == 9)) = true)) ∧ ((!(zz1 != zz2)) = true → (True → (!(zz1 != zz2)) = true)) ∧ ((!(zz1 != zz2)) = true → (((Tree.kind t) == 9) = true → ((!(zz1 != zz2)) && ((Tree.kind t) == 9)) = true)) ∧ (((zz1 != zz2) = false → (!(zz1 != zz2)) = true)) ∧ (TrVR07G ((!zz0) = true)) ∧ (TrVR07G (((!zz0) && zz1) = true)) ∧ (TrVR07G (((!zz0) && zz1) = true)) ∧ (((!zz0) && zz1) = true → InR ((Tree.kind t) - 2)) ∧ (TrVR07G (((!zz0) && zz1) = true)) ∧ (TrVR07G (((!zz0) && zz1) = true)) ∧ (((!zz0) && zz1) = true → (0 : Int) ≤ 0 ∧ 0 < ((Tree.words (List.getD (Tree.kids t) (Int.toNat x5) Tree.nil)).length : Int)) ∧ (TrVR07G (((!zz0) && zz1) = true)) ∧ (TrVR07G (((!zz0) && zz1) = true)) ∧ (TrVR07G (((!zz0) && zz1) = true)) ∧ (((!zz0) && zz1) = true → pre58 (((Tree.kind t) - 2), (List.getD (Tree.words (List.getD (Tree.kids t) (Int.toNat x5) Tree.nil)) (Int.toNat 0) (0 : Int)), ())) ∧ (TrVR07G (((!zz0) && zz1) = true)) ∧ ((!zz0) = true → (True → (!zz0) = true)) ∧ ((!zz0) = true → (zz1 = true → ((!zz0) && zz1) = true)) ∧ ((zz0 = false → (!zz0) = true)) ∧ (((bif zz0 then true else (bif zz1 then zz4 else false)) = true → (Q .ret (⟨[(4, .c (.bool false))], [], []⟩ : LSt U))) ∧ ((bif zz0 then true else (bif zz1 then zz4 else false)) = false → (InR ((x5 : Int) + 1)) ∧ (N0 (head43_0 t d ((x5 : Int) + 1)))))))))) ∧ ((decide ((x5 : Int) < ((Tree.kids t).length : Int))) = false → (Q .ret (⟨[(4, .c (.bool true))], [], []⟩ : LSt U))))) := by kernel_rfl
  exact e.mpr ⟨fun c_26 => ⟨(h.1 c_26).1, ⟨(h.1 c_26).2.1, (h.1 c_26).2.2.1, (h.1 c_26).2.2.2.1, ⟨fun c_27 => ((h.1 c_26).2.2.2.2.1 c_27), fun c_27 => ⟨id, id, (by generalize (decide ((2 : Int) ≤ (Tree.kind t))) = b0; revert b0; decide), ⟨id, id, id, id, id, (by generalize ((bif (decide ((2 : Int) ≤ (Tree.kind t))) then (decide (((Tree.kind t) : Int) ≤ 7)) else false) != (((Tree.kind (List.getD (Tree.kids t) (Int.toNat x5) Tree.nil)) : Int) == 10)) = b0; revert b0; decide), (by generalize ((bif (decide ((2 : Int) ≤ (Tree.kind t))) then (decide (((Tree.kind t) : Int) ≤ 7)) else false) != (((Tree.kind (List.getD (Tree.kids t) (Int.toNat x5) Tree.nil)) : Int) == 10)) = b0; generalize (((Tree.kind t) : Int) == 9) = b1; revert b0 b1; decide), (by generalize ((bif (decide ((2 : Int) ≤ (Tree.kind t))) then (decide (((Tree.kind t) : Int) ≤ 7)) else false) != (((Tree.kind (List.getD (Tree.kids t) (Int.toNat x5) Tree.nil)) : Int) == 10)) = b0; revert b0; decide), id, id, id, ((h.1 c_26).2.2.2.2.2 c_27).1, id, id, ((h.1 c_26).2.2.2.2.2 c_27).2.1, id, id, id, ((h.1 c_26).2.2.2.2.2 c_27).2.2.1, id, (by generalize ((bif (decide ((2 : Int) ≤ (Tree.kind t))) then (decide (((Tree.kind t) : Int) ≤ 7)) else false) != (((Tree.kind (List.getD (Tree.kids t) (Int.toNat x5) Tree.nil)) : Int) == 10)) = b0; generalize (((Tree.kind (List.getD (Tree.kids t) (Int.toNat x5) Tree.nil)) : Int) != 1) = b1; generalize (((Tree.kind t) : Int) == 9) = b2; revert b0 b1 b2; decide), (by generalize ((bif (decide ((2 : Int) ≤ (Tree.kind t))) then (decide (((Tree.kind t) : Int) ≤ 7)) else false) != (((Tree.kind (List.getD (Tree.kids t) (Int.toNat x5) Tree.nil)) : Int) == 10)) = b0; generalize (((Tree.kind (List.getD (Tree.kids t) (Int.toNat x5) Tree.nil)) : Int) != 1) = b1; generalize (decide ((2 : Int) ≤ (Tree.kind t))) = b2; generalize (decide (((Tree.kind t) : Int) ≤ 7)) = b3; generalize (((Tree.kind t) : Int) == 9) = b4; revert b0 b1 b2 b3 b4; decide), (by generalize ((bif (decide ((2 : Int) ≤ (Tree.kind t))) then (decide (((Tree.kind t) : Int) ≤ 7)) else false) != (((Tree.kind (List.getD (Tree.kids t) (Int.toNat x5) Tree.nil)) : Int) == 10)) = b0; generalize (((Tree.kind (List.getD (Tree.kids t) (Int.toNat x5) Tree.nil)) : Int) != 1) = b1; generalize (((Tree.kind t) : Int) == 9) = b2; revert b0 b1 b2; decide), ⟨fun c_28 => (((h.1 c_26).2.2.2.2.2 c_27).2.2.2.1 c_28), fun c_28 => ⟨(((h.1 c_26).2.2.2.2.2 c_27).2.2.2.2 c_28).1, (((h.1 c_26).2.2.2.2.2 c_27).2.2.2.2 c_28).2⟩⟩⟩⟩⟩⟩⟩, fun c_26 => (h.2 c_26)⟩
def Body43 (N : Nat) (t : Tree) (d : Int)  : Prop := awp cfg (know (know43 N)) (drawOk cfg (know (know43 N))) Try.f43.ntmps lv43 (cd Try.f43 []) (entry (args43.can (t, d, ())) []) (EndsQ cfg Try.f43.ntmps Try.f43.results.toList (res43 (t, d, ())) [])
theorem make43 (c58 : Contract Try.prog cfg 58 spec58) (hb : ∀ (N : Nat) (t : Tree) (d : Int) (_ : Unit), pre43 (t, d, ()) → mu43 (t, d, ()) < N + 1 → Body43 N t d) : Contract Try.prog cfg 43 spec43 :=
  contract_rec (μ := mu43) (l := [(58, spec58)]) cfgOk rfl (⟨c58, trivial⟩) lv43 Try.func43 rfl rfl 2 (fun _ => rfl) (by decide) (fun N ⟨t, d, _⟩ => hb N t d ())
end
end Go.AM.Ythokdjgpdonhgaa

namespace Go.AM.Ythokdjgpdonhgaa
open Go.AM Go.Proofs
mutual
theorem shallow_mass : ∀ (t : Tree) (d l : Int), 0 ≤ shallow t d l → (mass t : Int) + shallow t d l ≤ l
  | .mk _ w ks, d, l, h => by
    simp only [shallow] at h ⊢
    split at h
    · omega
    · rename_i hc
      rw [if_neg hc]
      have := shallowK_mass ks (d - 1) (l - 1 - w.length) h
      simp only [mass]
      omega
theorem shallowK_mass : ∀ (ks : List Tree) (d l : Int), 0 ≤ shallowK ks d l → (massK ks : Int) + shallowK ks d l ≤ l
  | [], d, l, h => by simp [shallowK, massK]
  | t :: r, d, l, h => by
    simp only [shallowK] at h ⊢
    split at h
    · omega
    · rename_i hc
      rw [if_neg hc]
      have h1 := shallowK_mass r d (shallow t d l) h
      have h3 := (shallowK_range r d (shallow t d l) (shallow_range t d l).1).2
      have h2 := shallow_mass t d l (by omega)
      simp only [massK]
      omega
end
end Go.AM.Ythokdjgpdonhgaa

namespace Go.AM.Ythokdjgpdonhgaa
open Go.AM Go.Proofs
theorem wrap64_div (n : Int) (h0 : 0 ≤ n) (h1 : n < 18446744073709551616) : IntKind.wrap .u64 (Int.tdiv n 2) = n / 2 := by
  rw [Int.tdiv_eq_ediv_of_nonneg h0]
  simp [IntKind.wrap, IntKind.signed, IntKind.bits]
  omega
theorem pow_half {w : Nat} {n m : Int} (h : 0 ≤ n) : (n / 2 < 2 ^ w) ↔ n < 2 ^ (w + 1) := by
  have : (2 : Int) ^ (w + 1) = 2 ^ w * 2 := by rw [Int.pow_succ]
  omega
theorem c58 : Contract Try.prog cfg 58 spec58 := by
  refine make58 c56 ?_
  intro c n _ hp
  simp only [pre58] at hp
  have hw := wd_le c
  refine vc58 _ _ _ ?_
  (simp only [vcS])
  refine ⟨trivial, fun h => ends_bool rfl ?_, fun h => ?_⟩
  · simp only [fits]
    simp
    omega
  · refine loop_rule (ι := Int × Int) (fun p => head58_0 c n p.1 p.2) (fun p => 0 ≤ p.2 ∧ p.2 ≤ wd c ∧ 0 ≤ p.1 ∧ p.1 < 18446744073709551616 ∧ (n < 2 ^ (wd c).toNat ↔ p.1 < 2 ^ (wd c - p.2).toNat)) (fun p => (wd c - p.2).toNat) (n, 0) rfl ⟨by dsimp only; omega, by dsimp only; omega, by dsimp only; omega, by dsimp only; omega, by simp⟩ ?_
    rintro ⟨m, i⟩ ⟨h1, h2, h3, h4, h5⟩
    dsimp only at *
    refine vc58_l0 _ _ _ _ _ _ ?_
    (simp only [vcS])
    refine ⟨fun hc => ⟨by omega, by unfold InR; omega, (IntKind.wrap .u64 (Int.tdiv m 2), i + 1), rfl, ?_, by dsimp only; omega⟩, fun hc => ends_bool rfl ?_⟩
    · rw [wrap64_div m h3 h4]
      refine ⟨by dsimp only; omega, by dsimp only; omega, by dsimp only; omega, by dsimp only; omega, ?_⟩
      dsimp only
      rw [h5, show (wd c - i).toNat = (wd c - (i + 1)).toNat + 1 by omega]
      exact (pow_half (m := 0) h3).symm
    · have e : (wd c - i).toNat = 0 := by omega
      rw [e] at h5
      simp only [fits]
      rw [Bool.eq_iff_iff]
      simp
      omega
theorem fdiv_pow (n : Int) (w : Nat) (h : 0 ≤ n) : (Int.fdiv n (2 ^ w) = 0) ↔ n < 2 ^ w := by
  have hp : (0 : Int) < 2 ^ w := Int.pow_pos (by omega)
  rw [Int.fdiv_eq_ediv_of_nonneg _ (by omega)]
  constructor
  · intro h1
    have := Int.lt_ediv_add_one_mul_self n hp
    rw [h1] at this
    simpa using this
  · intro h1
    exact Int.ediv_eq_zero_of_lt h h1
theorem c121 : Contract Try.prog cfg 121 spec121 := by
  refine make121 c110 ?_
  intro c n _ hp
  simp only [pre121] at hp
  have hw := wd_le c
  refine vc121 _ _ _ ?_
  refine ⟨trivial, fun h => by split <;> omega, ends_bool rfl ?_⟩
  simp only [fits]
  by_cases h0 : 0 ≤ wd c
  · rw [if_neg (by omega)]
    simp only [h0, decide_true, cond_true, true_and]
    by_cases h64 : wd c = 64
    · simp [h64]
      omega
    · have : ((wd c) == 64) = false := by simpa using h64
      rw [this, cond_false, Bool.eq_iff_iff]
      have hm : min (wd c).toNat (IntKind.bits .u64) = (wd c).toNat := by
        show min (wd c).toNat 64 = _
        omega
      rw [hm]
      simp only [beq_iff_eq, decide_eq_true_eq]
      exact fdiv_pow n _ hp.1
  · simp [h0]
theorem c116 : Contract Try.prog cfg 116 spec116 := by
  refine make116 ?_
  intro c _ _
  refine vc116 _ _ ?_
  refine ends_bool rfl ?_
  rw [Bool.eq_iff_iff]
  (simp only [vcS])
theorem rng_word {t : Tree} (h : rng t) {i : Nat} (hi : i < t.words.length) : 0 ≤ t.words.getD i 0 ∧ t.words.getD i 0 < 18446744073709551616 := by
  obtain ⟨k, w, ks⟩ := t
  simp only [rng] at h
  simp only [Tree.words_mk] at *
  have hg : w.getD i 0 ∈ w := by
    simp only [List.getD, List.getElem?_eq_getElem hi, Option.getD_some]
    exact List.getElem_mem hi
  exact h.2.1 _ hg
theorem c117 : Contract Try.prog cfg 117 spec117 := by
  refine make117 c107 c121 ?_
  intro l t _ hp
  simp only [pre117] at hp
  refine vc117 _ _ _ ?_
  (simp only [vcS])
  refine ⟨trivial, fun hd => ⟨fun _ => by unfold InR; omega, fun h => by omega, fun h => rng_word hp (by omega), ends_bool rfl ?_⟩, fun hd => ⟨fun h => ends_bool rfl ?_, fun h => ends_bool rfl ?_⟩⟩
  · simp only [kidB, if_pos hd, Int.toNat_zero]
    rw [Bool.eq_iff_iff]
    (simp only [vcS])
    constructor <;> (rintro ⟨h1, h2⟩; exact ⟨by omega, h2⟩)
  · simp only [kidB, if_neg hd, if_pos h]
    rw [Bool.eq_iff_iff]
    (simp only [vcS])
  · simp only [kidB, if_neg hd, if_neg h]
    rw [Bool.eq_iff_iff]
    (simp only [vcS])
theorem rightK_drop {l : Int} {ks : List Tree} {i : Int} {d : Int} (h0 : 0 ≤ i) (h : i < ks.length) :
    rightK l (ks.drop i.toNat) d = ((kidB l (ks.getD i.toNat Tree.nil) && rightT (ks.getD i.toNat Tree.nil) d) && rightK l (ks.drop (i + 1).toNat) d) := by
  have e : (i + 1).toNat = i.toNat + 1 := by omega
  rw [List.drop_eq_getElem_cons (by omega), e]
  simp only [rightK, List.getD, List.getElem?_eq_getElem (show i.toNat < ks.length by omega), Option.getD_some]
theorem rngK_get : ∀ {ks : List Tree} {i : Nat}, rngK ks → i < ks.length → rng (ks.getD i Tree.nil)
  | t :: _, 0, h, _ => by simp only [rngK] at h; exact h.1
  | _ :: r, i + 1, h, hi => by simp only [rngK] at h; exact rngK_get (ks := r) (i := i) h.2 (by simpa using hi)
theorem kidB_one (t : Tree) : kidB 1 t = decide (t.kind ≠ 10) := by simp [kidB]
theorem c94 : Contract Try.prog cfg 94 spec94 := by
  refine make94 c116 c117 ?_
  rintro N ⟨k, ws, ks⟩ d _ hp hN
  simp only [pre94, mu94, mass, rng] at hp hN
  have key : ∀ b, d ≠ 0 → rightT (.mk k ws ks) d = (b && rightK k ks (d - 1)) → b = true →
      LoopWp (awp cfg (know (know94 N)) (drawOk cfg (know (know94 N))) Try.f94.ntmps lv94 (cd Try.f94 [1, 1, 0, 1, 0, 0])) (head94_0 (.mk k ws ks) d 0) (AExit.inBlock 1 (seqK cfg (know (know94 N)) (drawOk cfg (know (know94 N))) Try.f94.ntmps lv94 (cd Try.f94 [1, 1, 1]) (EndsQ cfg Try.f94.ntmps Try.f94.results.toList (res94 (.mk k ws ks, d, ())) []))) := by
    intro b hd0 hb hbt
    subst hbt
    rw [Bool.true_and] at hb
    refine loop_rule (ι := Int) (fun p => head94_0 (.mk k ws ks) d p) (fun p => 0 ≤ p ∧ p ≤ ks.length ∧ rightT (.mk k ws ks) d = rightK k (ks.drop p.toNat) (d - 1)) (fun p => ((ks.length : Int) - p).toNat) 0 rfl ⟨by omega, by omega, by simpa using hb⟩ ?_
    rintro i ⟨h1, h2, h3⟩
    refine vc94_l0 N _ _ _ _ _ ?_
    (simp only [vcS])
    (simp only [Tree.eta, Tree.kind_mk, Tree.words_mk, Tree.kids_mk])
    refine ⟨fun hi => ⟨⟨by omega, hi⟩, ?_⟩, fun hi => ?_⟩
    · have hd := rightK_drop (l := k) (d := d - 1) h1 hi
      have hm := massK_get (ks := ks) (i := i.toNat) (by omega)
      have hr := rngK_get (i := i.toNat) hp.2.1.2.2 (by omega)
      rw [hd] at h3
      have hlen := massK_len ks
      generalize ks.getD i.toNat Tree.nil = y at *
      have hpre : pre94 (y, d - 1, ()) := ⟨by dsimp only; omega, hr, by dsimp only; omega, by dsimp only; omega⟩
      have hmu : mu94 (y, d - 1, ()) < N := by simp only [mu94]; omega
      have hin : InR (d - 1) := by unfold InR; omega
      refine ⟨fun hk => ⟨hr, fun _ => hin, fun _ => hpre, fun _ => hmu, fun hc => ends_bool rfl ?_, fun hc => ⟨by unfold InR; omega, i + 1, rfl, ⟨by omega, by omega, ?_⟩, by omega⟩⟩, fun hk => ⟨fun _ => hin, fun _ => hpre, fun _ => hmu, fun hc => ends_bool rfl ?_, fun hc => ⟨by unfold InR; omega, i + 1, rfl, ⟨by omega, by omega, ?_⟩, by omega⟩⟩⟩
      · rw [h3]
        rcases hc with hc | hc <;> simp [hc]
      · rw [h3, hc.1, hc.2]; rfl
      · subst hk
        rw [h3, kidB_one]
        rcases hc with hc | hc <;> simp [hc]
      · subst hk
        rw [h3, kidB_one, hc.2]
        simp [hc.1]
    · rw [List.drop_eq_nil_of_le (by omega)] at h3
      simp only [rightK] at h3
      exact ends_bool rfl h3.symm
  refine vc94 N _ _ _ ?_
  (simp only [vcS])
  (simp only [Tree.eta, Tree.kind_mk, Tree.words_mk, Tree.kids_mk])
  have hk0 : ∀ h0 : k = 0, rightT (.mk k ws ks) d = decide (ws.length = 0 ∧ ks.length = 0) := fun h0 => by simp only [rightT, if_pos h0]
  have hk10 : ∀ (_ : ¬k = 0) (h10 : k = 10), rightT (.mk k ws ks) d = decide (ws.length = 1 ∧ ks.length = 0) := fun h0 h10 => by simp only [rightT, if_neg h0, if_pos h10]
  refine ⟨fun h0 => ends_bool rfl ?_, fun h0 => ⟨fun h10 => ends_bool rfl ?_, fun h10 => ⟨fun hd => ends_bool rfl ?_, fun hd => ⟨fun h1 => ⟨fun hc => ends_bool rfl ?_, fun hc => key true hd ?_ rfl⟩, fun h1 => ⟨trivial, fun hc => ends_bool rfl ?_, fun hc => key true hd ?_ rfl⟩⟩⟩⟩⟩
  · rw [hk0 h0, Bool.eq_iff_iff]; (simp only [vcS]); omega
  · rw [hk10 h0 h10, Bool.eq_iff_iff]; (simp only [vcS]); omega
  · simp only [rightT, if_neg h0, if_neg h10, if_pos hd]
  · simp only [rightT, if_neg h0, if_neg h10, if_neg hd, if_pos h1]
    rw [decide_eq_false (by omega)]; rfl
  · simp only [rightT, if_neg h0, if_neg h10, if_neg hd, if_pos h1]
    rw [decide_eq_true (by omega), h1]
  · simp only [rightT, if_neg h0, if_neg h10, if_neg hd, if_neg h1]
    rw [decide_eq_false (by omega)]; rfl
  · simp only [rightT, if_neg h0, if_neg h10, if_neg hd, if_neg h1]
    rw [decide_eq_true (by omega)]
theorem c71 : Contract Try.prog cfg 71 spec71 := by
  refine make71 c94 ?_
  intro t _ hp
  refine vc71 _ _ ?_
  (simp only [Tree.eta, Tree.kind_mk, Tree.words_mk, Tree.kids_mk])
  exact ⟨⟨hp.1, hp.2, by dsimp only; omega, by dsimp only; omega⟩, ends_bool rfl rfl⟩
theorem rightT_atom {y : Tree} {d : Int} (h : rightT y d = true) (hk : y.kind = 10) : y.words.length = 1 ∧ y.kids.length = 0 := by
  obtain ⟨k, w, ks⟩ := y
  simp only [Tree.kind_mk] at hk
  subst hk
  simpa [rightT] using h
theorem c43 : Contract Try.prog cfg 43 spec43 := by
  refine make43 c58 ?_
  rintro N ⟨k, ws, ks⟩ d _ hp hN
  simp only [pre43, mu43, mass, rng] at hp hN
  refine vc43 N _ _ _ ?_
  (simp only [vcS])
  (simp only [Tree.eta, Tree.kind_mk, Tree.words_mk, Tree.kids_mk])
  refine ⟨fun h0 => ends_bool rfl ?_, fun h0 => ⟨fun h10 => ends_bool rfl ?_, fun h10 => ⟨fun hc => ends_bool rfl ?_, fun hc => ⟨fun hw => ends_bool rfl ?_, fun hw => ?_⟩⟩⟩⟩
  · simp only [rightT, if_pos h0]
    rw [Bool.eq_iff_iff]; (simp only [vcS]); omega
  · simp only [rightT, if_neg h0, if_pos h10]
    rw [Bool.eq_iff_iff]; (simp only [vcS]); omega
  · simp only [rightT, if_neg h0, if_neg h10]
    split
    · rfl
    · split
      · rw [decide_eq_false (by omega)]; rfl
      · have : ¬(2 ≤ k ∧ k ≤ 9 ∧ ws.length = 0 ∧ ks.length < 1048576) := by omega
        rw [decide_eq_false this]; rfl
  · simp only [rightT, if_neg h0, if_neg h10]
    rw [if_neg (by omega), if_neg (by omega)]
    have : ¬(2 ≤ k ∧ k ≤ 9 ∧ ws.length = 0 ∧ ks.length < 1048576) := by omega
    rw [decide_eq_false this]; rfl
  · have hb : rightT (.mk k ws ks) d = rightK k ks (d - 1) := by
      simp only [rightT, if_neg h0, if_neg h10]
      rw [if_neg (by omega)]
      split
      · rename_i h1
        rw [decide_eq_true (by omega), h1]; rfl
      · have : 2 ≤ k ∧ k ≤ 9 ∧ ws.length = 0 ∧ ks.length < 1048576 := by omega
        rw [decide_eq_true this]; rfl
    refine loop_rule (ι := Int) (fun p => head43_0 (.mk k ws ks) d p) (fun p => 0 ≤ p ∧ p ≤ ks.length ∧ rightT (.mk k ws ks) d = rightK k (ks.drop p.toNat) (d - 1)) (fun p => ((ks.length : Int) - p).toNat) 0 rfl ⟨by omega, by omega, by simpa using hb⟩ ?_
    rintro i ⟨h1, h2, h3⟩
    refine vc43_l0 N _ _ _ _ _ ?_
    (simp only [vcS])
    (simp only [Tree.eta, Tree.kind_mk, Tree.words_mk, Tree.kids_mk])
    refine ⟨fun hi => ?_, fun hi => ?_⟩
    · have hd := rightK_drop (l := k) (d := d - 1) h1 hi
      have hm := massK_get (ks := ks) (i := i.toNat) (by omega)
      have hr := rngK_get (i := i.toNat) hp.2.1.2.2 (by omega)
      rw [hd] at h3
      have hlen := massK_len ks
      generalize ks.getD i.toNat Tree.nil = y at *
      have hpre : pre43 (y, d - 1, ()) := ⟨by dsimp only; omega, hr, by dsimp only; omega, by dsimp only; omega⟩
      have hmu : mu43 (y, d - 1, ()) < N := by simp only [mu43]; omega
      have hin : InR (d - 1) := by unfold InR; omega
      refine ⟨⟨h1, hi⟩, hin, hpre, hmu, fun hf => ends_bool rfl ?_, fun hf => ?_⟩
      · rw [h3, hf]; simp
      · have hdata : ((bif decide (2 ≤ k) then decide (k ≤ 7) else false) = (y.kind == 10)) ↔ ((2 ≤ k ∧ k ≤ 7) ↔ y.kind = 10) := by
          rw [Bool.eq_iff_iff]; (simp only [vcS])
        have hat := rightT_atom hf
        have hkb : kidB k y = true ↔ (((2 ≤ k ∧ k ≤ 7) ↔ y.kind = 10) ∧ (¬k = 9 ∨ y.kind = 1)) ∧ ((¬2 ≤ k ∨ ¬k ≤ 7) ∨ fits (k - 2) (y.words.getD 0 0) = true) := by
          unfold kidB
          by_cases hk : 2 ≤ k ∧ k ≤ 7
          · rw [if_pos hk]
            (simp only [vcS])
            constructor
            · rintro ⟨h4, h5⟩; exact ⟨⟨by omega, by omega⟩, .inr h5⟩
            · rintro ⟨⟨h4, _⟩, h5⟩
              have := hat (by omega)
              exact ⟨by omega, by rcases h5 with h5 | h5; omega; exact h5⟩
          · rw [if_neg hk]
            by_cases h9 : k = 9
            · rw [if_pos h9]
              (simp only [vcS])
              constructor
              · intro h4; exact ⟨⟨by omega, by omega⟩, .inl (by omega)⟩
              · rintro ⟨⟨_, h4⟩, _⟩; omega
            · rw [if_neg h9]
              (simp only [vcS])
              constructor
              · intro h4; exact ⟨⟨by omega, by omega⟩, .inl (by omega)⟩
              · rintro ⟨⟨h4, _⟩, _⟩; omega
        have hone : ∀ (h4 : (((bif decide (2 ≤ k) then decide (k ≤ 7) else false) = (y.kind == 10) ∧ (¬k = 9 ∨ y.kind = 1)) ∧ 2 ≤ k ∧ k ≤ 7)), y.words.length = 1 := fun h4 => (hat ((hdata.1 h4.1.1).1 h4.2)).1
        simp only [Int.toNat_zero]
        refine ⟨fun h4 => by unfold InR; omega, fun h4 => by have := hone h4; omega, fun h4 => rng_word hr (by have := hone h4; omega), fun h4 => ends_bool rfl ?_, fun h4 => ⟨by unfold InR; omega, i + 1, rfl, ⟨by omega, by omega, ?_⟩, by omega⟩⟩
        · have hno : kidB k y = false := by
            cases hkk : kidB k y with
            | false => rfl
            | true =>
              exfalso
              obtain ⟨h5, h6⟩ := hkb.1 hkk
              rcases h4 with h4 | ⟨h4, h7⟩
              · rcases h4 with h4 | h4
                · exact h4 (hdata.2 h5.1)
                · omega
              · rcases h6 with h6 | h6
                · omega
                · rw [h7] at h6; cases h6
          rw [h3, hno]; rfl
        · rw [h3, hkb.2 ⟨⟨hdata.1 h4.1.1, h4.1.2⟩, h4.2⟩, hf]; rfl
    · rw [List.drop_eq_nil_of_le (by omega)] at h3
      simp only [rightK] at h3
      exact ends_bool rfl h3.symm
end Go.AM.Ythokdjgpdonhgaa
