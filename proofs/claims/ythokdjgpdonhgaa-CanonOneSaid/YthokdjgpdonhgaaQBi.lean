import Derived.Test.YthokdjgpdonhgaaQD8
import Derived.Test.YthokdjgpdonhgaaQBb
set_option linter.unusedSimpArgs false
set_option linter.unusedVariables false
namespace Go.AM.Ythokdjgpdonhgaa
open Go.AM Go.Proofs

theorem kidsP_len : ∀ (ks : List Tree) (a to : Int), (kidsP ks a to).1.length = ks.length
  | [], _, _ => by rw [kidsP]; rfl
  | t :: r, a, to => by rw [kidsP, List.length_cons, List.length_cons, kidsP_len r]

theorem kidsP_snoc : ∀ (ks : List Tree) (t : Tree) (a to : Int),
    kidsP (ks ++ [t]) a to = ((kidsP ks a to).1 ++ [headP (a + ks.length) (to + (kidsP ks a to).2.length) t], (kidsP ks a to).2 ++ blkP t (to + (kidsP ks a to).2.length))
  | [], t, a, to => by simp [kidsP]
  | k :: r, t, a, to => by
    rw [List.cons_append, kidsP, kidsP_snoc r t, kidsP]
    rw [show a + 1 + (r.length : Int) = a + ((k :: r : List Tree).length : Nat) by rw [List.length_cons]; omega,
      show to + ((blkP k to).length : Int) + ((kidsP r (a + 1) (to + (blkP k to).length)).2.length : Int) = to + ((blkP k to ++ (kidsP r (a + 1) (to + (blkP k to).length)).2).length : Nat) by rw [List.length_append]; omega]
    simp only [List.cons_append, List.append_assoc]

def kidsSt (A S : List Int) (ks : List Tree) (to : Int) (i : Nat) : List Int :=
  A ++ ((kidsP (ks.take i) A.length to).1 ++ (List.replicate (ks.length - i) 0 ++ (S ++ (kidsP (ks.take i) A.length to).2)))

theorem take_snoc {ks : List Tree} {i : Nat} (h : i < ks.length) : ks.take (i + 1) = ks.take i ++ [ks.getD i Tree.nil] := by
  rw [List.getD_eq_getElem?_getD, List.getElem?_eq_getElem h, Option.getD_some]
  exact (List.take_append_getElem h).symm

theorem kidsSt_len (A S : List Int) (ks : List Tree) (to : Int) {i : Nat} (h : i ≤ ks.length) : (kidsSt A S ks to i).length = A.length + ks.length + S.length + (kidsP (ks.take i) A.length to).2.length := by
  unfold kidsSt
  simp only [List.length_append, List.length_replicate, kidsP_len, List.length_take]
  omega

theorem kids_step {A S : List Int} {ks : List Tree} {i : Nat} (h : i < ks.length) :
    layP (kidsSt A S ks (A.length + ks.length + S.length : Nat) i) (A.length + i) (ks.getD i Tree.nil) = kidsSt A S ks (A.length + ks.length + S.length : Nat) (i + 1) := by
  have hl := kidsSt_len A S ks (A.length + ks.length + S.length : Nat) (Nat.le_of_lt h)
  generalize ht : ks.getD i Tree.nil = t
  have hz : List.replicate (ks.length - i) (0 : Int) = 0 :: List.replicate (ks.length - (i + 1)) 0 := by
    rw [← List.replicate_succ]; congr 1; omega
  have htk : (ks.take i).length = i := by rw [List.length_take]; omega
  have hsn : kidsSt A S ks (A.length + ks.length + S.length : Nat) (i + 1) =
      A ++ ((kidsP (ks.take i) A.length (A.length + ks.length + S.length : Nat)).1 ++ (headP (A.length + i) (kidsSt A S ks (A.length + ks.length + S.length : Nat) i).length t ::
        (List.replicate (ks.length - (i + 1)) 0 ++ (S ++ ((kidsP (ks.take i) A.length (A.length + ks.length + S.length : Nat)).2 ++ blkP t (kidsSt A S ks (A.length + ks.length + S.length : Nat) i).length))))) := by
    rw [hl]
    conv => lhs; unfold kidsSt
    rw [take_snoc h, kidsP_snoc, ht, htk]
    simp only [List.append_assoc, List.singleton_append, Int.natCast_add]
  rw [hsn]
  have hset : (kidsSt A S ks (A.length + ks.length + S.length : Nat) i).set (A.length + i) (headP (A.length + i) (kidsSt A S ks (A.length + ks.length + S.length : Nat) i).length t) =
      A ++ ((kidsP (ks.take i) A.length (A.length + ks.length + S.length : Nat)).1 ++ (headP (A.length + i) (kidsSt A S ks (A.length + ks.length + S.length : Nat) i).length t :: (List.replicate (ks.length - (i + 1)) 0 ++ (S ++ (kidsP (ks.take i) A.length (A.length + ks.length + S.length : Nat)).2)))) := by
    generalize headP (A.length + i) (kidsSt A S ks (A.length + ks.length + S.length : Nat) i).length t = x
    unfold kidsSt
    rw [hz, List.set_append_right _ _ (by omega), List.set_append_right _ _ (by rw [kidsP_len, htk]; omega), kidsP_len, htk, show A.length + i - A.length - i = 0 by omega]
    rfl
  unfold layP
  rw [show ((A.length : Int) + (i : Int)).toNat = A.length + i by omega]
  by_cases h0 : t.kind = 0
  · rw [if_pos h0]
    have hh : headP (A.length + i) (kidsSt A S ks (A.length + ks.length + S.length : Nat) i).length t = 0 := by cases t; exact if_pos h0
    have hb : ∀ to, blkP t to = [] := by intro to; cases t; rw [blkP]; exact if_pos h0
    rw [hh, hb, List.append_nil]
    unfold kidsSt
    rw [hz]
    rfl
  · rw [if_neg h0, hset]
    simp only [List.append_assoc, List.cons_append]

theorem kidsSt_zero (A S : List Int) (ks : List Tree) (to : Int) : kidsSt A S ks to 0 = A ++ (List.replicate ks.length 0 ++ S) := by
  unfold kidsSt
  simp [kidsP]
theorem kidsSt_all (A S : List Int) (ks : List Tree) (to : Int) : kidsSt A S ks to ks.length = A ++ ((kidsP ks A.length to).1 ++ (S ++ (kidsP ks A.length to).2)) := by
  unfold kidsSt
  simp


theorem rowsP_len {fw fk : Nat} : ∀ (ks : List Tree) (a to : Int), (∀ t ∈ ks, t.words.length ≤ fw ∧ t.kids.length ≤ fk) → (rowsP fw fk ks a to).1.length = ks.length * (fw + fk)
  | [], _, _, _ => by rw [rowsP]; simp
  | .mk k w l :: r, a, to, h => by
    have h1 : w.length ≤ fw ∧ l.length ≤ fk := h _ List.mem_cons_self
    rw [rowsP]
    simp only [List.length_append, List.length_replicate, kidsP_len, List.length_cons]
    rw [rowsP_len r _ _ fun t ht => h t (List.mem_cons_of_mem _ ht), Nat.add_mul]
    omega

theorem rowsP_snoc {fw fk : Nat} : ∀ (ks : List Tree) (t : Tree) (a to : Int),
    rowsP fw fk (ks ++ [t]) a to = ((rowsP fw fk ks a to).1 ++ (t.words ++ (List.replicate (fw - t.words.length) 0 ++ ((kidsP t.kids (a + (ks.length * (fw + fk) : Nat) + fw) (to + (rowsP fw fk ks a to).2.length)).1 ++ List.replicate (fk - t.kids.length) 0))),
      (rowsP fw fk ks a to).2 ++ (kidsP t.kids (a + (ks.length * (fw + fk) : Nat) + fw) (to + (rowsP fw fk ks a to).2.length)).2)
  | [], .mk k w l, a, to => by simp [rowsP]
  | .mk k w l :: r, t, a, to => by
    rw [List.cons_append, rowsP, rowsP_snoc r t, rowsP]
    have e1 : a + ((fw : Int) + fk) + (r.length * (fw + fk) : Nat) + fw = a + (((.mk k w l :: r : List Tree).length * (fw + fk) : Nat)) + fw := by
      rw [List.length_cons, Nat.add_mul]; omega
    have e2 : to + ((kidsP l (a + fw) to).2.length : Int) + ((rowsP fw fk r (a + (fw + fk)) (to + (kidsP l (a + fw) to).2.length)).2.length : Int) =
        to + ((((kidsP l (a + fw) to).2 ++ (rowsP fw fk r (a + (fw + fk)) (to + (kidsP l (a + fw) to).2.length)).2).length : Nat) : Int) := by
      rw [List.length_append]; omega
    rw [e1, e2]
    simp only [List.append_assoc]

theorem frW_le : ∀ {ks : List Tree} {t : Tree}, t ∈ ks → t.words.length ≤ frW ks ∧ t.kids.length ≤ frK ks
  | k :: r, t, h => by
    rw [frW, frK]
    rcases List.mem_cons.1 h with rfl | h
    · omega
    · have := frW_le h; omega


theorem rightK_mem {i : Int} : ∀ {ks : List Tree} {d : Int} {t : Tree}, rightK i ks d = true → t ∈ ks → kidB i t = true ∧ rightT t d = true
  | k :: r, d, t, h, ht => by
    rw [rightK, Bool.and_eq_true, Bool.and_eq_true] at h
    rcases List.mem_cons.1 ht with rfl | ht
    · exact h.1
    · exact rightK_mem h.2 ht

structure RiT (k : Int) (w : List Int) (ks : List Tree) (d : Int) : Prop where
  kind : 0 ≤ k ∧ k ≤ 10
  nil : k = 0 → w = [] ∧ ks = []
  atom : k = 10 → w.length = 1 ∧ ks = []
  stru : k = 1 → w.length < 65536 ∧ ks.length < 65536
  list : k ≠ 1 → k ≠ 10 → w = []
  len : ks.length < 1048576
  kids : ∀ t ∈ ks, rightT t (d - 1) = true ∧ (k ≠ 1 → kidB k t = true) ∧ (k = 1 ∨ k = 8 → t.kind ≠ 10) ∧ (k = 9 → t.kind = 1)
  data : 2 ≤ k → k ≤ 7 → fitsA (k - 2) (numsP ks) = true ∧ ∀ t ∈ ks, t.kind = 10 ∧ t.kids.length = 0 ∧ t.words.length = 1

theorem riT {k : Int} {w : List Int} {ks : List Tree} {d : Int} (h : rightT (.mk k w ks) d = true) : RiT k w ks d := by
  rw [rightT] at h
  split at h
  · rename_i h0
    have := of_decide_eq_true h
    have h1 := List.length_eq_zero_iff.1 this.1
    have h2 := List.length_eq_zero_iff.1 this.2
    subst h1 h2
    exact ⟨by omega, fun _ => ⟨rfl, rfl⟩, by omega, by omega, fun _ _ => rfl, by simp, fun t ht => (by cases ht), by omega⟩
  · split at h
    · have := of_decide_eq_true h
      have h2 := List.length_eq_zero_iff.1 this.2
      subst h2
      exact ⟨by omega, by omega, fun _ => ⟨this.1, rfl⟩, by omega, by omega, by simp, fun t ht => (by cases ht), by omega⟩
    · split at h
      · cases h
      · split at h
        · rename_i h1
          rw [Bool.and_eq_true] at h
          have hw := of_decide_eq_true h.1
          refine ⟨by omega, by omega, by omega, fun _ => hw, by omega, by omega, fun t ht => ?_, by omega⟩
          have := rightK_mem h.2 ht
          refine ⟨this.2, by omega, fun _ => ?_, by omega⟩
          have hb := this.1
          unfold kidB at hb
          rw [if_neg (by omega), if_neg (by omega)] at hb
          exact of_decide_eq_true hb
        · rename_i h1
          rw [Bool.and_eq_true] at h
          have hw := of_decide_eq_true h.1
          refine ⟨by omega, by omega, by omega, by omega, fun _ _ => List.length_eq_zero_iff.1 hw.2.2.1, by omega, fun t ht => ?_, fun h2 h7 => ?_⟩
          · have := rightK_mem h.2 ht
            refine ⟨this.2, fun _ => this.1, fun h8 => ?_, fun h9 => ?_⟩
            · have hb := this.1
              unfold kidB at hb
              rw [if_neg (by omega), if_neg (by omega)] at hb
              exact of_decide_eq_true hb
            · have hb := this.1
              unfold kidB at hb
              rw [if_neg (by omega), if_pos h9] at hb
              exact of_decide_eq_true hb
          · have hk : ∀ t ∈ ks, (t.kind = 10 ∧ t.kids.length = 0 ∧ t.words.length = 1) ∧ fits (k - 2) (t.words.getD 0 0) = true := fun t ht => by
              have hb := (rightK_mem h.2 ht).1
              unfold kidB at hb
              rw [if_pos ⟨h2, h7⟩, Bool.and_eq_true] at hb
              exact ⟨of_decide_eq_true hb.1, hb.2⟩
            refine ⟨?_, fun t ht => (hk t ht).1⟩
            unfold fitsA
            rw [Bool.and_eq_true]
            refine ⟨decide_eq_true ?_, List.all_eq_true.2 fun x hx => ?_⟩
            · unfold wd; repeat' split
              all_goals omega
            · obtain ⟨t, ht, rfl⟩ := List.mem_map.1 hx
              exact (hk t ht).2

mutual
theorem blkP_len : ∀ (t : Tree) (d to : Int), rightT t d = true → t.kind ≠ 10 → (blkP t to).length = sizeN t
  | .mk k w ks, d, to, h, h10 => by
    have hr := riT h
    have h10 : k ≠ 10 := h10
    rw [blkP, sizeN]
    split
    · rename_i h0
      subst h0
      rw [if_neg (by decide), if_neg (by decide), if_neg (by decide), if_neg (by decide), (hr.nil rfl).2]
      rfl
    · rename_i h0
      split
      · rename_i h1
        rw [List.length_append, List.length_append, kidsP_len, kidsP_blk ks (d - 1) _ _ fun t ht => ⟨(hr.kids t ht).1, (hr.kids t ht).2.2.1 (.inl h1)⟩]
        omega
      · split
        · rename_i h8
          rw [List.length_append, kidsP_len, kidsP_blk ks (d - 1) _ _ fun t ht => ⟨(hr.kids t ht).1, (hr.kids t ht).2.2.1 (.inr h8)⟩]
        · split
          · rename_i h9
            rw [List.length_cons, List.length_append, rowsP_len ks _ _ fun t ht => frW_le ht, rowsP_blk (frW ks) (frK ks) ks (d - 1) _ _ fun t ht => ⟨(hr.kids t ht).1, (hr.kids t ht).2.2.2 h9⟩]
            omega
          · have hk := hr.kind
            rw [if_pos (by omega)]
            unfold putR
            rw [if_pos (hr.data (by omega) (by omega)).1, putW_len, numsP, List.length_map]
theorem kidsP_blk : ∀ (ks : List Tree) (d a to : Int), (∀ t ∈ ks, rightT t d = true ∧ t.kind ≠ 10) → (kidsP ks a to).2.length = sizeK ks
  | [], _, _, _, _ => by rw [kidsP, sizeK]; rfl
  | t :: r, d, a, to, h => by
    have h1 := h t List.mem_cons_self
    rw [kidsP, sizeK, List.length_append, blkP_len t d to h1.1 h1.2, kidsP_blk r d _ _ fun t ht => h t (List.mem_cons_of_mem _ ht)]
theorem rowsP_blk (fw fk : Nat) : ∀ (ks : List Tree) (d a to : Int), (∀ t ∈ ks, rightT t d = true ∧ t.kind = 1) → (rowsP fw fk ks a to).2.length = sizeR ks
  | [], _, _, _, _ => by rw [rowsP, sizeR]; rfl
  | .mk k w l :: r, d, a, to, h => by
    have h1 := h _ List.mem_cons_self
    have h1k : k = 1 := h1.2
    have hr := riT h1.1
    rw [rowsP, sizeR, List.length_append, kidsP_blk l (d - 1) _ _ fun t ht => ⟨(hr.kids t ht).1, (hr.kids t ht).2.2.1 (.inl h1k)⟩, rowsP_blk fw fk r d _ _ fun t ht => h t (List.mem_cons_of_mem _ ht)]
end

end Go.AM.Ythokdjgpdonhgaa

namespace Go.AM.Ythokdjgpdonhgaa
open Go.AM Go.Proofs

def zs (n : Nat) : List Int := List.replicate n 0
@[simp] theorem zs_len (n : Nat) : (zs n).length = n := by simp [zs]
theorem zs_add (n m : Nat) : zs (n + m) = zs n ++ zs m := by rw [zs, zs, zs, List.replicate_append_replicate]

def rowSt (A R : List Int) (fw fk : Nat) (ks : List Tree) (i : Nat) : List Int :=
  A ++ ((rowsP fw fk (ks.take i) A.length (A.length + ks.length * (fw + fk) : Nat)).1 ++ (R ++ (rowsP fw fk (ks.take i) A.length (A.length + ks.length * (fw + fk) : Nat)).2))
def rowA (A : List Int) (fw fk : Nat) (ks : List Tree) (i : Nat) : List Int :=
  A ++ ((rowsP fw fk (ks.take i) A.length (A.length + ks.length * (fw + fk) : Nat)).1 ++ ((ks.getD i Tree.nil).words ++ zs (fw - (ks.getD i Tree.nil).words.length)))
def rowS (A R : List Int) (fw fk : Nat) (ks : List Tree) (i : Nat) : List Int :=
  zs (fk - (ks.getD i Tree.nil).kids.length) ++ (R ++ (rowsP fw fk (ks.take i) A.length (A.length + ks.length * (fw + fk) : Nat)).2)

def Fit (fw fk : Nat) (ks : List Tree) : Prop := ∀ t ∈ ks, t.words.length ≤ fw ∧ t.kids.length ≤ fk
theorem Fit.get {fw fk : Nat} {ks : List Tree} (h : Fit fw fk ks) {i : Nat} (hi : i < ks.length) : (ks.getD i Tree.nil).words.length ≤ fw ∧ (ks.getD i Tree.nil).kids.length ≤ fk := by
  rw [List.getD_eq_getElem?_getD, List.getElem?_eq_getElem hi]
  exact h _ (List.getElem_mem hi)
theorem Fit.take {fw fk : Nat} {ks : List Tree} (h : Fit fw fk ks) (i : Nat) : Fit fw fk (ks.take i) := fun t ht => h t (List.mem_of_mem_take ht)

theorem rowA_len {A : List Int} {fw fk : Nat} {ks : List Tree} (h : Fit fw fk ks) {i : Nat} (hi : i < ks.length) : (rowA A fw fk ks i).length = A.length + i * (fw + fk) + fw := by
  have := h.get hi
  unfold rowA
  rw [List.length_append, List.length_append, List.length_append, zs_len, rowsP_len _ _ _ (h.take i), List.length_take, Nat.min_eq_left (by omega)]
  omega

theorem rowS_len {A R : List Int} {fw fk : Nat} {ks : List Tree} (h : Fit fw fk ks) {i : Nat} (hi : i < ks.length) (hR : R.length = (ks.length - (i + 1)) * (fw + fk)) :
    (rowA A fw fk ks i).length + (ks.getD i Tree.nil).kids.length + (rowS A R fw fk ks i).length = A.length + ks.length * (fw + fk) + (rowsP fw fk (ks.take i) A.length (A.length + ks.length * (fw + fk) : Nat)).2.length := by
  have := h.get hi
  have e : ks.length * (fw + fk) = i * (fw + fk) + (fw + fk) + (ks.length - (i + 1)) * (fw + fk) := by
    rw [← Nat.succ_mul, ← Nat.add_mul]; congr 1; omega
  rw [rowA_len h hi]
  unfold rowS
  rw [List.length_append, List.length_append, zs_len, hR]
  omega

theorem row_zero {A R : List Int} {fw fk : Nat} {ks : List Tree} (h : Fit fw fk ks) {i : Nat} (hi : i < ks.length) (to : Int) :
    kidsSt (rowA A fw fk ks i) (rowS A R fw fk ks i) (ks.getD i Tree.nil).kids to 0 = rowSt A ((ks.getD i Tree.nil).words ++ (zs (fw + fk - (ks.getD i Tree.nil).words.length) ++ R)) fw fk ks i := by
  have := h.get hi
  rw [kidsSt_zero]
  unfold rowA rowS rowSt
  rw [show fw + fk - (ks.getD i Tree.nil).words.length = fw - (ks.getD i Tree.nil).words.length + ((ks.getD i Tree.nil).kids.length + (fk - (ks.getD i Tree.nil).kids.length)) by omega, zs_add, zs_add]
  simp only [List.append_assoc, zs]

theorem row_all {A R : List Int} {fw fk : Nat} {ks : List Tree} (h : Fit fw fk ks) {i : Nat} (hi : i < ks.length) (hR : R.length = (ks.length - (i + 1)) * (fw + fk)) :
    kidsSt (rowA A fw fk ks i) (rowS A R fw fk ks i) (ks.getD i Tree.nil).kids ((rowA A fw fk ks i).length + (ks.getD i Tree.nil).kids.length + (rowS A R fw fk ks i).length : Nat) (ks.getD i Tree.nil).kids.length = rowSt A R fw fk ks (i + 1) := by
  rw [kidsSt_all, rowS_len h hi hR, rowA_len h hi]
  unfold rowA rowS rowSt
  rw [take_snoc hi, rowsP_snoc, List.length_take, Nat.min_eq_left (Nat.le_of_lt hi)]
  simp only [List.append_assoc, zs, Int.natCast_add]

end Go.AM.Ythokdjgpdonhgaa

namespace Go.AM.Ythokdjgpdonhgaa
open Go.AM Go.Proofs


def encW (p : Ptr) : Int :=
  if p.kind = 1 then (if (-536870912 ≤ p.off ∧ p.off < 536870912) ∧ (0 ≤ p.data ∧ p.data ≤ 65535) ∧ 0 ≤ p.ptrs ∧ p.ptrs ≤ 65535 then 4 * (p.off % 1073741824) + 4294967296 * (p.data + 65536 * p.ptrs) else 0)
  else if p.kind = 2 then (if (-536870912 ≤ p.off ∧ p.off < 536870912) ∧ (0 ≤ p.code ∧ p.code ≤ 7) ∧ 0 ≤ p.count ∧ p.count ≤ 536870911 then 4 * (p.off % 1073741824) + 1 + 4294967296 * (p.code + 8 * p.count) else 0)
  else if p.kind = 3 then (if (0 ≤ p.off ∧ p.off ≤ 536870911) ∧ 0 ≤ p.segment ∧ p.segment ≤ 4294967295 then 8 * p.off + 2 + (if p.double = true then 4 else 0) + 4294967296 * p.segment else 0)
  else 0

def eqP (p q : Ptr) : Bool := p.kind == q.kind && (p.off == q.off && (p.data == q.data && (p.ptrs == q.ptrs && (p.code == q.code && (p.count == q.count && (p.segment == q.segment && (p.double == q.double && true)))))))
theorem eqP_self (p : Ptr) : eqP p p = true := by simp [eqP]

theorem off_nxt {o : Int} (h : -536870912 ≤ o ∧ o < 536870912) : (if 536870912 ≤ o % 1073741824 then o % 1073741824 - 1073741824 else o % 1073741824) = o := by
  split <;> omega

theorem dec_struct {o d p : Int} (ho : -536870912 ≤ o ∧ o < 536870912) (hd : 0 ≤ d ∧ d < 65536) (hp : 0 ≤ p ∧ p < 65536) (hz : ¬(o = 0 ∧ d = 0 ∧ p = 0)) :
    decP (4 * (o % 1073741824) + 0 + 4294967296 * (d + 65536 * p)) = ⟨1, o, d, p, 0, 0, 0, false⟩ := by
  have e0 : (4 * (o % 1073741824) + 0 + 4294967296 * (d + 65536 * p)) / 4 % 1073741824 = o % 1073741824 := by omega
  unfold decP offP
  rw [if_neg (by omega), if_pos (by omega), e0, off_nxt ho]
  congr 1 <;> omega

theorem dec_list {o c n : Int} (ho : -536870912 ≤ o ∧ o < 536870912) (hc : 0 ≤ c ∧ c < 8) (hn : 0 ≤ n ∧ n < 536870912) :
    decP (4 * (o % 1073741824) + 1 + 4294967296 * (c + 8 * n)) = ⟨2, o, 0, 0, c, n, 0, false⟩ := by
  have e0 : (4 * (o % 1073741824) + 1 + 4294967296 * (c + 8 * n)) / 4 % 1073741824 = o % 1073741824 := by omega
  unfold decP offP
  rw [if_neg (by omega), if_neg (by omega), if_pos (by omega), e0, off_nxt ho]
  congr 1 <;> omega

def pntW (a to : Int) (p : Ptr) : Int :=
  if p.kind = 1 then ptrP a (if p.data + p.ptrs = 0 then a else to) 0 (p.data + 65536 * p.ptrs) else ptrP a to 1 (p.code + 8 * p.count)
def pntOk (p : Ptr) : Prop :=
  (p.kind = 1 ∧ (0 ≤ p.data ∧ p.data < 65536) ∧ (0 ≤ p.ptrs ∧ p.ptrs < 65536) ∧ p.code = 0 ∧ p.count = 0 ∨ p.kind = 2 ∧ p.data = 0 ∧ p.ptrs = 0 ∧ (0 ≤ p.code ∧ p.code < 8) ∧ 0 ≤ p.count ∧ p.count < 536870912) ∧ p.segment = 0 ∧ p.double = false

def pntP (a to : Int) (p : Ptr) : Ptr := ⟨p.kind, if p.kind = 1 ∧ p.data + p.ptrs = 0 then -1 else to - a - 1, p.data, p.ptrs, p.code, p.count, p.segment, p.double⟩

theorem pnt_enc {a to : Int} {p : Ptr} (h : pntOk p) (h0 : 0 ≤ a) (h1 : a < to) (h2 : to < 1000000000) (h3 : to - a < 500000000) : encW (pntP a to p) = pntW a to p ∧ decP (encW (pntP a to p)) = pntP a to p := by
  obtain ⟨k, o, d, q, c, n, s, b⟩ := p
  obtain ⟨h, hs, hb⟩ := h
  dsimp only at h hs hb
  subst hs hb
  rcases h with ⟨rfl, hd, hq, rfl, rfl⟩ | ⟨rfl, rfl, rfl, hc, hn⟩
  · have eo : (if (1 : Int) = 1 ∧ d + q = 0 then (-1 : Int) else to - a - 1) = if d + q = 0 then -1 else to - a - 1 := by simp
    have e : encW (pntP a to ⟨1, o, d, q, 0, 0, 0, false⟩) = 4 * ((if d + q = 0 then -1 else to - a - 1) % 1073741824) + 0 + 4294967296 * (d + 65536 * q) := by
      unfold encW pntP
      dsimp only
      rw [eo, if_pos rfl, if_pos ⟨by split <;> omega, by omega, by omega⟩]
      omega
    constructor
    · rw [e]
      unfold pntW ptrP
      dsimp only
      rw [if_pos rfl]
      split <;> omega
    · rw [e]
      unfold pntP
      dsimp only
      rw [eo, dec_struct (by split <;> omega) hd hq (by split <;> omega)]
  · have eo : (if (2 : Int) = 1 ∧ (0 : Int) + 0 = 0 then (-1 : Int) else to - a - 1) = to - a - 1 := if_neg (fun h => absurd h.1 (by decide))
    have e : encW (pntP a to ⟨2, o, 0, 0, c, n, 0, false⟩) = 4 * ((to - a - 1) % 1073741824) + 1 + 4294967296 * (c + 8 * n) := by
      unfold encW pntP
      dsimp only
      rw [eo, if_neg (by decide), if_pos rfl, if_pos ⟨by omega, by omega, by omega⟩]
    constructor
    · rw [e]
      unfold pntW ptrP
      dsimp only
      rw [if_neg (by decide)]
    · rw [e]
      unfold pntP
      dsimp only
      rw [eo, dec_list (by omega) hc hn]


def kidsR (l : List Int) (a : Int) (t : Tree) : List Int :=
  l.take a.toNat ++ ((kidsP t.kids a l.length).1 ++ (l.drop (a.toNat + t.kids.length) ++ (kidsP t.kids a l.length).2))
def strR (l : List Int) (a n : Int) (t : Tree) : List Int :=
  l.take a.toNat ++ (t.words ++ (zs (n.toNat - t.words.length) ++ ((kidsP t.kids (a + n) l.length).1 ++ (l.drop (a.toNat + n.toNat + t.kids.length) ++ (kidsP t.kids (a + n) l.length).2))))

def zsAt (l : List Int) (a n : Nat) : Prop := ∃ A S, l = A ++ (zs n ++ S) ∧ A.length = a

theorem zsAt_split {l : List Int} {a n : Nat} (h : zsAt l a n) : l = l.take a ++ (zs n ++ l.drop (a + n)) ∧ (l.take a).length = a ∧ a + n ≤ l.length := by
  obtain ⟨A, S, rfl, rfl⟩ := h
  refine ⟨?_, ?_, ?_⟩
  · rw [List.take_left, show A.length + n = (A ++ zs n).length by simp, ← List.append_assoc, List.drop_left, List.append_assoc]
  · rw [List.take_left]
  · simp

theorem kidsR_zero {l : List Int} {a : Nat} {t : Tree} (h : zsAt l a t.kids.length) : kidsSt (l.take a) (l.drop (a + t.kids.length)) t.kids l.length 0 = l := by
  obtain ⟨h1, h2, h3⟩ := zsAt_split h
  rw [kidsSt_zero]
  exact h1.symm
theorem kidsR_len {l : List Int} {a : Nat} {t : Tree} (h : zsAt l a t.kids.length) : (l.take a).length + t.kids.length + (l.drop (a + t.kids.length)).length = l.length := by
  obtain ⟨h1, h2, h3⟩ := zsAt_split h
  rw [h2, List.length_drop]
  omega
theorem kidsR_step {l : List Int} {a : Nat} {t : Tree} (h : zsAt l a t.kids.length) {i : Nat} (hi : i < t.kids.length) :
    layP (kidsSt (l.take a) (l.drop (a + t.kids.length)) t.kids l.length i) ((a : Int) + i) (t.kids.getD i Tree.nil) = kidsSt (l.take a) (l.drop (a + t.kids.length)) t.kids l.length (i + 1) := by
  have := kids_step (A := l.take a) (S := l.drop (a + t.kids.length)) hi
  rw [kidsR_len h, (zsAt_split h).2.1] at this
  exact this
theorem kidsR_all {l : List Int} {a : Nat} {t : Tree} (h : zsAt l a t.kids.length) : kidsSt (l.take a) (l.drop (a + t.kids.length)) t.kids l.length t.kids.length = kidsR l a t := by
  rw [kidsSt_all, (zsAt_split h).2.1]
  rfl

end Go.AM.Ythokdjgpdonhgaa

namespace Go.AM.Ythokdjgpdonhgaa
open Go.AM Go.Proofs

theorem trim_cons (x : Int) (r : List Int) : trim (x :: r) = if trim r = [] ∧ x = 0 then [] else x :: trim r := by
  simp only [trim]
  split
  · rename_i h
    simp only [h]
    split <;> simp_all
  · rename_i h
    simp [h]

theorem trimK_cons (x : Tree) (r : List Tree) : trimK (x :: r) = if trimK r = [] ∧ x.kind = 0 then [] else x :: trimK r := by
  simp only [trimK]
  split
  · rename_i h
    simp only [h]
    split <;> simp_all
  · rename_i h
    simp [h]

theorem normT_nil : normT Tree.nil = Tree.nil := by simp [Tree.nil, normT]

theorem normT_kind (t : Tree) : (normT t).kind = t.kind := by
  obtain ⟨k, w, ks⟩ := t
  simp only [normT]
  split
  · rename_i h; simp [h, Tree.nil]
  · split
    · rename_i h; simp [h]
    · rfl

end Go.AM.Ythokdjgpdonhgaa

namespace Go.AM.Ythokdjgpdonhgaa
open Go.AM Go.Proofs

theorem trim_pre : ∀ (l : List Int), ∃ r, l = trim l ++ r
  | [] => ⟨[], rfl⟩
  | x :: r => by
    obtain ⟨s, hs⟩ := trim_pre r
    simp only [trim]
    split
    · rename_i e
      split
      · exact ⟨x :: r, rfl⟩
      · exact ⟨r, rfl⟩
    · rename_i y t e
      rw [e] at hs
      exact ⟨s, by rw [hs]; rfl⟩

theorem trimK_pre : ∀ (l : List Tree), ∃ r, l = trimK l ++ r
  | [] => ⟨[], rfl⟩
  | x :: r => by
    obtain ⟨s, hs⟩ := trimK_pre r
    simp only [trimK]
    split
    · rename_i e
      split
      · exact ⟨x :: r, rfl⟩
      · exact ⟨r, rfl⟩
    · rename_i y t e
      rw [e] at hs
      exact ⟨s, by rw [hs]; rfl⟩

theorem rightK_pre {list d : Int} : ∀ (a b : List Tree), rightK list (a ++ b) d = true → rightK list a d = true
  | [], _, _ => rfl
  | t :: r, b, h => by
    simp only [List.cons_append, rightK, Bool.and_eq_true] at h ⊢
    exact ⟨h.1, rightK_pre r b h.2⟩

theorem kidB_norm {list : Int} {t : Tree} (h : kidB list t = true) : kidB list (normT t) = true := by
  unfold kidB at h ⊢
  rw [normT_kind]
  split at h
  · rename_i hl
    rw [if_pos hl]
    simp only [Bool.and_eq_true, decide_eq_true_eq] at h ⊢
    obtain ⟨⟨h1, h2, h3⟩, h4⟩ := h
    obtain ⟨k, w, ks⟩ := t
    simp only [Tree.kind_mk, Tree.kids_mk, Tree.words_mk] at h1 h2 h3 h4
    have : ks = [] := List.length_eq_zero_iff.1 h2
    subst this
    subst h1
    exact ⟨⟨rfl, rfl, h3⟩, h4⟩
  · rename_i hl
    rw [if_neg hl]
    exact h

mutual
theorem rightT_norm : ∀ (t : Tree) (d : Int), rightT t d = true → rightT (normT t) d = true
  | .mk k w ks, d, h => by
    have ih := fun (list : Int) (h : rightK list ks (d - 1) = true) => rightK_norm ks list (d - 1) h
    simp only [rightT] at h
    simp only [normT]
    by_cases h0 : k = 0
    · rw [if_pos h0]; simp [Tree.nil, rightT]
    · rw [if_neg h0] at h ⊢
      by_cases h10 : k = 10
      · subst h10
        rw [if_pos rfl] at h
        rw [if_neg (by decide)]
        simp only [decide_eq_true_eq] at h
        simp only [rightT]
        rw [if_neg (by decide), if_pos trivial, normK_len]
        simpa using h
      · rw [if_neg h10] at h
        by_cases hd : d = 0
        · rw [if_pos hd] at h; cases h
        · rw [if_neg hd] at h
          by_cases h1 : k = 1
          · subst h1
            rw [if_pos rfl] at h
            rw [if_pos rfl]
            simp only [Bool.and_eq_true, decide_eq_true_eq] at h
            simp only [rightT]
            rw [if_neg (by decide), if_neg (by decide), if_neg hd, if_pos trivial]
            simp only [Bool.and_eq_true, decide_eq_true_eq]
            obtain ⟨r1, e1⟩ := trim_pre w
            obtain ⟨r2, e2⟩ := trimK_pre (normK ks)
            have l1 := congrArg List.length e1
            have l2 := congrArg List.length e2
            rw [normK_len] at l2
            simp only [List.length_append] at l1 l2
            refine ⟨⟨by omega, by omega⟩, ?_⟩
            have := ih 1 h.2
            rw [e2] at this
            exact rightK_pre _ _ this
          · rw [if_neg h1] at h ⊢
            simp only [Bool.and_eq_true, decide_eq_true_eq] at h
            simp only [rightT]
            rw [if_neg h0, if_neg h10, if_neg hd, if_neg h1, normK_len]
            simp only [Bool.and_eq_true, decide_eq_true_eq]
            exact ⟨h.1, ih k h.2⟩
theorem rightK_norm : ∀ (l : List Tree) (list d : Int), rightK list l d = true → rightK list (normK l) d = true
  | [], _, _, _ => rfl
  | t :: r, list, d, h => by
    simp only [rightK, Bool.and_eq_true] at h
    have h1 := rightT_norm t d h.1.2
    have h2 := rightK_norm r list d h.2
    simp only [normK, rightK, Bool.and_eq_true]
    exact ⟨⟨kidB_norm h.1.1, h1⟩, h2⟩
end

theorem trim_idem (l : List Int) : trim (trim l) = trim l := by
  induction l with
  | nil => rfl
  | cons x r ih =>
    rw [trim_cons]
    split
    · rfl
    · rename_i h
      rw [trim_cons, ih, if_neg h]

theorem trimK_idem (l : List Tree) : trimK (trimK l) = trimK l := by
  induction l with
  | nil => rfl
  | cons x r ih =>
    rw [trimK_cons]
    split
    · rfl
    · rename_i h
      rw [trimK_cons, ih, if_neg h]

def Normed : List Tree → Prop
  | [] => True
  | t :: r => normT t = t ∧ Normed r

theorem Normed.eq : ∀ {l : List Tree}, Normed l → normK l = l
  | [], _ => rfl
  | t :: r, h => by simp only [normK, h.1, Normed.eq h.2]

theorem Normed.trim : ∀ {l : List Tree}, Normed l → Normed (trimK l)
  | [], _ => trivial
  | t :: r, h => by
    rw [trimK_cons]
    split
    · trivial
    · exact ⟨h.1, Normed.trim h.2⟩

mutual
theorem normT_idem : ∀ (t : Tree), normT (normT t) = normT t
  | .mk k w ks => by
    have h := normK_normed ks
    by_cases h0 : k = 0
    · simp [normT, h0, Tree.nil]
    · by_cases h1 : k = 1
      · subst h1
        simp only [normT, if_neg h0, if_true, trim_idem, h.trim.eq, trimK_idem]
      · simp only [normT, if_neg h0, if_neg h1, h.eq]
theorem normK_normed : ∀ (ks : List Tree), Normed (normK ks)
  | [] => trivial
  | t :: r => ⟨normT_idem t, normK_normed r⟩
end

theorem rngK_app : ∀ {a b : List Tree}, rngK (a ++ b) ↔ rngK a ∧ rngK b
  | [], b => by simp [rngK]
  | t :: r, b => by simp only [List.cons_append, rngK]; rw [rngK_app (a := r), and_assoc]

mutual
theorem rng_norm : ∀ (t : Tree), rng t → rng (normT t)
  | .mk k w ks, h => by
    simp only [rng] at h
    obtain ⟨h1, h2, h3⟩ := h
    have h4 := rngK_norm ks h3
    simp only [normT]
    split
    · simp only [Tree.nil, rng, rngK]
      exact ⟨by decide, by simp, trivial⟩
    · split
      · obtain ⟨r1, e1⟩ := trim_pre w
        obtain ⟨r2, e2⟩ := trimK_pre (normK ks)
        simp only [rng]
        refine ⟨by decide, fun x hx => h2 x (by rw [e1]; exact List.mem_append.2 (Or.inl hx)), ?_⟩
        rw [e2] at h4
        exact (rngK_app.1 h4).1
      · simp only [rng]
        exact ⟨h1, h2, h4⟩
theorem rngK_norm : ∀ (l : List Tree), rngK l → rngK (normK l)
  | [], _ => trivial
  | t :: r, h => by
    simp only [rngK] at h
    have h1 := rng_norm t h.1
    have h2 := rngK_norm r h.2
    simp only [normK, rngK]
    exact ⟨h1, h2⟩
end


theorem mass_pos (t : Tree) : 1 ≤ mass t := by cases t; rw [mass]; omega

theorem fr_mass : ∀ (ks : List Tree), frW ks + frK ks + ks.length ≤ massK ks
  | [] => by simp [frW, frK, massK]
  | .mk k w l :: r => by
    have := fr_mass r
    have h : l.length ≤ massK l := by
      clear this
      induction l with
      | nil => simp
      | cons t l ih => rw [massK, List.length_cons]; have := mass_pos t; omega
    rw [frW, frK, massK, mass, List.length_cons]
    show max w.length _ + max l.length _ + _ ≤ _
    omega

theorem room_le (c : Int) (n : Nat) : (roomW c n).toNat ≤ n := by
  unfold roomW
  split
  · simp
  · rcases wd_div c with e | e | e | e | e | e
    · omega
    all_goals (rw [e]; omega)

theorem sq_le {a b c : Nat} (h : a + b ≤ c) : a * a + b * b ≤ c * c := by
  have h1 : a * a + b * b ≤ (a + b) * (a + b) := by
    rw [Nat.add_mul, Nat.mul_add, Nat.mul_add]
    omega
  exact Nat.le_trans h1 (Nat.mul_le_mul h h)

mutual
theorem size_mass : ∀ (t : Tree), sizeN t ≤ mass t * mass t
  | .mk k w ks => by
    have hk := sizeK_mass ks
    have hr := sizeR_mass ks
    have hf := fr_mass ks
    have e : ∀ W M : Nat, (W + M) * (W + M) = W * W + 2 * (W * M) + M * M := by
      intro W M
      rw [Nat.add_mul, Nat.mul_add, Nat.mul_add, Nat.mul_comm M W]
      omega
    have e1 : 1 + w.length ≤ (1 + w.length) * (1 + w.length) := Nat.le_mul_of_pos_left _ (by omega)
    have e2 : massK ks ≤ (1 + w.length) * massK ks := Nat.le_mul_of_pos_left _ (by omega)
    rw [sizeN, mass, e]
    split
    · omega
    · split
      · omega
      · split
        · have h1 : ks.length * (frW ks + frK ks) ≤ ks.length * (massK ks - ks.length) := Nat.mul_le_mul_left _ (by omega)
          have h2 : ks.length * (massK ks - ks.length) + (massK ks - ks.length) * (massK ks - ks.length) ≤ massK ks * massK ks := by
            rw [← Nat.add_mul]
            exact Nat.mul_le_mul (by omega) (by omega)
          omega
        · split
          · have := room_le (k - 2) ks.length
            omega
          · omega
theorem sizeK_mass : ∀ (ks : List Tree), sizeK ks ≤ massK ks * massK ks
  | [] => by simp [sizeK]
  | t :: r => by
    rw [sizeK, massK]
    have h1 := size_mass t
    have h2 := sizeK_mass r
    have := sq_le (Nat.le_refl (mass t + massK r))
    omega
theorem sizeR_mass : ∀ (ks : List Tree), sizeR ks ≤ (massK ks - ks.length) * (massK ks - ks.length)
  | [] => by simp [sizeR]
  | .mk k w l :: r => by
    rw [sizeR, massK, mass, List.length_cons]
    have h1 := sizeK_mass l
    have h2 := sizeR_mass r
    have hf := fr_mass r
    have := sq_le (a := massK l) (b := massK r - r.length) (c := 1 + w.length + massK l + massK r - (r.length + 1)) (by omega)
    omega
end

end Go.AM.Ythokdjgpdonhgaa

namespace Go.AM.Ythokdjgpdonhgaa
open Go.AM Go.Proofs

def args121 : ArgL (Int × Int × Unit) := (.cons (aInt .i64) (.cons (aInt .u64) .nil))
def pre121 (a : Int × Int × Unit) : Prop := 0 ≤ a.2.1 ∧ a.2.1 < 18446744073709551616
noncomputable def res121 (a : Int × Int × Unit) : V U := .c (.bool (fits a.1 a.2.1))
noncomputable def spec121 : Fs U := fs args121 (fun a => [pre121 a]) res121

def args116 : ArgL (Int × Unit) := (.cons (aInt .i64) .nil)
def pre116 (a : Int × Unit) : Prop := True
noncomputable def res116 (a : Int × Unit) : V U := .c (.bool (decide (2 ≤ a.1 ∧ a.1 ≤ 9)))
noncomputable def spec116 : Fs U := fs args116 (fun a => [pre116 a]) res116

def args117 : ArgL (Int × Tree × Unit) := (.cons (aInt .i64) (.cons (aEl .tree) .nil))
def pre117 (a : Int × Tree × Unit) : Prop := rng a.2.1
noncomputable def res117 (a : Int × Tree × Unit) : V U := .c (.bool (kidB a.1 a.2.1))
noncomputable def spec117 : Fs U := fs args117 (fun a => [pre117 a]) res117

def args94 : ArgL (Tree × Int × Unit) := (.cons (aEl .tree) (.cons (aInt .i64) .nil))
def pre94 (a : Tree × Int × Unit) : Prop := mass a.1 ≤ 1000000 ∧ rng a.1 ∧ 0 ≤ a.2.1 ∧ a.2.1 ≤ 1000
def mu94 (a : Tree × Int × Unit) : Nat := mass a.1
noncomputable def res94 (a : Tree × Int × Unit) : V U := .c (.bool (rightT a.1 a.2.1))
noncomputable def spec94 : Fs U := fs args94 (fun a => [pre94 a]) res94

def args71 : ArgL (Tree × Unit) := (.cons (aEl .tree) .nil)
def pre71 (a : Tree × Unit) : Prop := mass a.1 ≤ 1000000 ∧ rng a.1
noncomputable def res71 (a : Tree × Unit) : V U := .c (.bool (rightT a.1 64))
noncomputable def spec71 : Fs U := fs args71 (fun a => [pre71 a]) res71

noncomputable def know121 : List (FuncId × Fs U) := [(110, spec110)]
def lv121 : Lives U := fun i => match i with
  | 0 => ([(0, []), (1, [])], [])
  | 1 => ([(1, []), (5, []), (6, [])], [])
  | 2 => ([(4, [])], [])
  | _ => ([], [])
theorem vc121 (c : Int) (n : Int) (Q : AExit → LSt U → Prop) (h : (pre110 (c, ())) ∧ ((((decide (0 ≤ wd c)) && (!(((if wd c < 0 then 0 else wd c) : Int) == 64))) = true → (0 : Int) ≤ (if wd c < 0 then 0 else wd c)) ∧ (Q .ret (⟨[(4, .c (.bool (bif (decide (0 ≤ wd c)) then (bif (((if wd c < 0 then 0 else wd c) : Int) == 64) then true else (((Int.fdiv n (2 ^ (min (Int.toNat (if wd c < 0 then 0 else wd c)) (IntKind.bits .u64)))) : Int) == 0)) else false)))], [], []⟩ : LSt U)))) :
    awp cfg (know know121) (drawOk cfg (know know121)) Try.f121.ntmps lv121 (cd Try.f121 []) (⟨[(0, .c (.int .i64 c)), (1, .c (.int .u64 n))], [], []⟩ : LSt U) Q := by
  have e : (awp cfg (know know121) (drawOk cfg (know know121)) Try.f121.ntmps lv121 (cd Try.f121 []) (⟨[(0, .c (.int .i64 c)), (1, .c (.int .u64 n))], [], []⟩ : LSt U) Q) = (((pre110 (c, ())) ∧ (((decide (0 ≤ wd c)) = true → (decide (0 ≤ wd c)) = true) ∧ ((decide (0 ≤ wd c)) = true → (decide (0 ≤ wd c)) = true) ∧ (((decide (0 ≤ wd c)) && (!(((if wd c < 0 then 0 else wd c) : Int) == 64))) = true → ((decide (0 ≤ wd c)) && (!(((if wd c < 0 then 0 else wd c) : Int) == 64))) = true) ∧ (((decide (0 ≤ wd c)) && (!(((if wd c < 0 then 0 else wd c) : Int) == 64))) = true → ((decide (0 ≤ wd c)) && (!(((if wd c < 0 then 0 else wd c) : Int) == 64))) = true) ∧ (((decide (0 ≤ wd c)) && (!(((if wd c < 0 then 0 else wd c) : Int) == 64))) = true → (0 : Int) ≤ (if wd c < 0 then 0 else wd c)) ∧ (((decide (0 ≤ wd c)) && (!(((if wd c < 0 then 0 else wd c) : Int) == 64))) = true → ((decide (0 ≤ wd c)) && (!(((if wd c < 0 then 0 else wd c) : Int) == 64))) = true) ∧ ((decide (0 ≤ wd c)) = true → (True → (decide (0 ≤ wd c)) = true)) ∧ ((decide (0 ≤ wd c)) = true → ((((if wd c < 0 then 0 else wd c) : Int) == 64) = false → ((decide (0 ≤ wd c)) && (!(((if wd c < 0 then 0 else wd c) : Int) == 64))) = true)) ∧ (((decide (0 ≤ wd c)) = true → (decide (0 ≤ wd c)) = true)) ∧ (Q .ret (⟨[(4, .c (.bool (bif (decide (0 ≤ wd c)) then (bif (((if wd c < 0 then 0 else wd c) : Int) == 64) then true else (((Int.fdiv n (2 ^ (min (Int.toNat (if wd c < 0 then 0 else wd c)) (IntKind.bits .u64)))) : Int) == 0)) else false)))], [], []⟩ : LSt U))))) := by kernel_rfl
  exact e.mpr ⟨h.1, ⟨fun x => x, fun x => x, fun x => x, fun x => x, h.2.1, fun x => x, (by generalize (decide (0 ≤ wd c)) = b0; revert b0; decide), (by generalize (((if wd c < 0 then 0 else wd c) : Int) == 64) = b0; generalize (decide (0 ≤ wd c)) = b1; revert b0 b1; decide), (by generalize (decide (0 ≤ wd c)) = b0; revert b0; decide), h.2.2⟩⟩
def Body121 (c : Int) (n : Int)  : Prop := awp cfg (know (know121)) (drawOk cfg (know (know121))) Try.f121.ntmps lv121 (cd Try.f121 []) (entry (args121.can (c, n, ())) []) (EndsQ cfg Try.f121.ntmps Try.f121.results.toList (res121 (c, n, ())) [])
theorem make121 (c110 : Contract Try.prog cfg 110 spec110) (hb : ∀ (c : Int) (n : Int) (_ : Unit), pre121 (c, n, ()) → Body121 c n) : Contract Try.prog cfg 121 spec121 :=
  contract_flat (l := [(110, spec110)]) cfgOk rfl (⟨c110, trivial⟩) lv121 Try.func121 rfl rfl 2 (fun _ => rfl) (by decide) (fun ⟨c, n, _⟩ => hb c n ())

noncomputable def know116 : List (FuncId × Fs U) := []
def lv116 : Lives U := fun i => match i with
  | 0 => ([(0, [])], [])
  | 1 => ([(2, [])], [])
  | _ => ([], [])
theorem vc116 (k : Int) (Q : AExit → LSt U → Prop) (h : Q .ret (⟨[(2, .c (.bool (bif (decide ((2 : Int) ≤ k)) then (decide ((k : Int) ≤ 9)) else false)))], [], []⟩ : LSt U)) :
    awp cfg (know know116) (drawOk cfg (know know116)) Try.f116.ntmps lv116 (cd Try.f116 []) (⟨[(0, .c (.int .i64 k))], [], []⟩ : LSt U) Q := by
  have e : (awp cfg (know know116) (drawOk cfg (know know116)) Try.f116.ntmps lv116 (cd Try.f116 []) (⟨[(0, .c (.int .i64 k))], [], []⟩ : LSt U) Q) = ((((decide ((2 : Int) ≤ k)) = true → (decide ((2 : Int) ≤ k)) = true) ∧ (((decide ((2 : Int) ≤ k)) = true → (decide ((2 : Int) ≤ k)) = true)) ∧ (Q .ret (⟨[(2, .c (.bool (bif (decide ((2 : Int) ≤ k)) then (decide ((k : Int) ≤ 9)) else false)))], [], []⟩ : LSt U)))) := by kernel_rfl
  exact e.mpr ⟨fun x => x, (by generalize (decide ((2 : Int) ≤ k)) = b0; revert b0; decide), h⟩
def Body116 (k : Int)  : Prop := awp cfg (know (know116)) (drawOk cfg (know (know116))) Try.f116.ntmps lv116 (cd Try.f116 []) (entry (args116.can (k, ())) []) (EndsQ cfg Try.f116.ntmps Try.f116.results.toList (res116 (k, ())) [])
theorem make116 (hb : ∀ (k : Int) (_ : Unit), pre116 (k, ()) → Body116 k) : Contract Try.prog cfg 116 spec116 :=
  contract_flat (l := []) cfgOk rfl (trivial) lv116 Try.func116 rfl rfl 1 (fun _ => rfl) (by decide) (fun ⟨k, _⟩ => hb k ())

noncomputable def know117 : List (FuncId × Fs U) := [(107, spec107), (121, spec121)]
def lv117 : Lives U := fun i => match i with
  | 0 => ([(0, []), (3, [])], [((.loc 3), [])])
  | 1 => ([(0, []), (3, []), (5, [])], [((.loc 3), [])])
  | 2 => ([(4, [])], [])
  | 3 => ([(3, []), (32, [])], [((.loc 3), [])])
  | 4 => ([(4, [])], [])
  | 5 => ([(4, [])], [])
  | _ => ([], [])
theorem vc117 (l : Int) (t : Tree) (Q : AExit → LSt U → Prop) (h : (pre107 (l, ())) ∧ (((decide (2 ≤ l ∧ l ≤ 7)) = true → ((bif (bif (((Tree.kind t) : Int) == 10) then ((((Tree.kids t).length : Int) : Int) == 0) else false) then ((((Tree.words t).length : Int) : Int) == 1) else false) = true → InR ((l : Int) - 2)) ∧ ((bif (bif (((Tree.kind t) : Int) == 10) then ((((Tree.kids t).length : Int) : Int) == 0) else false) then ((((Tree.words t).length : Int) : Int) == 1) else false) = true → (0 : Int) ≤ 0 ∧ 0 < ((Tree.words t).length : Int)) ∧ ((bif (bif (((Tree.kind t) : Int) == 10) then ((((Tree.kids t).length : Int) : Int) == 0) else false) then ((((Tree.words t).length : Int) : Int) == 1) else false) = true → pre121 (((l : Int) - 2), (List.getD (Tree.words t) (Int.toNat 0) (0 : Int)), ())) ∧ (Q .ret (⟨[(4, .c (.bool (bif (bif (bif (((Tree.kind t) : Int) == 10) then ((((Tree.kids t).length : Int) : Int) == 0) else false) then ((((Tree.words t).length : Int) : Int) == 1) else false) then (fits ((l : Int) - 2) (List.getD (Tree.words t) (Int.toNat 0) (0 : Int))) else false)))], [], []⟩ : LSt U))) ∧ ((decide (2 ≤ l ∧ l ≤ 7)) = false → (((l : Int) == 9) = true → Q .ret (⟨[(4, .c (.bool (((Tree.kind t) : Int) == 1)))], [], []⟩ : LSt U)) ∧ (((l : Int) == 9) = false → Q .ret (⟨[(4, .c (.bool (((Tree.kind t) : Int) != 10)))], [], []⟩ : LSt U))))) :
    awp cfg (know know117) (drawOk cfg (know know117)) Try.f117.ntmps lv117 (cd Try.f117 []) (⟨[(0, .c (.int .i64 l)), (1, .agg [.int .i64 (Tree.kind t), .slice (U := U) .u64 (Tree.words t) .unk, .slice (U := U) .tree (Tree.kids t) .unk])], [], []⟩ : LSt U) Q := by
  have e : (awp cfg (know know117) (drawOk cfg (know know117)) Try.f117.ntmps lv117 (cd Try.f117 []) (⟨[(0, .c (.int .i64 l)), (1, .agg [.int .i64 (Tree.kind t), .slice (U := U) .u64 (Tree.words t) .unk, .slice (U := U) .tree (Tree.kids t) .unk])], [], []⟩ : LSt U) Q) = (((pre107 (l, ())) ∧ (((decide (2 ≤ l ∧ l ≤ 7)) = true → ((((Tree.kind t) : Int) == 10) = true → (((Tree.kind t) : Int) == 10) = true) ∧ ((((Tree.kind t) : Int) == 10) = true → (((Tree.kind t) : Int) == 10) = true) ∧ ((((Tree.kind t) : Int) == 10) = true → (((Tree.kind t) : Int) == 10) = true) ∧ (((((Tree.kind t) : Int) == 10) = true → (((Tree.kind t) : Int) == 10) = true)) ∧ ((bif (((Tree.kind t) : Int) == 10) then ((((Tree.kids t).length : Int) : Int) == 0) else false) = true → (bif (((Tree.kind t) : Int) == 10) then ((((Tree.kids t).length : Int) : Int) == 0) else false) = true) ∧ ((bif (((Tree.kind t) : Int) == 10) then ((((Tree.kids t).length : Int) : Int) == 0) else false) = true → (bif (((Tree.kind t) : Int) == 10) then ((((Tree.kids t).length : Int) : Int) == 0) else false) = true) ∧ ((bif (((Tree.kind t) : Int) == 10) then ((((Tree.kids t).length : Int) : Int) == 0) else false) = true → (bif (((Tree.kind t) : Int) == 10) then ((((Tree.kids t).length : Int) : Int) == 0) else false) = true) ∧ (((bif (((Tree.kind t) : Int) == 10) then ((((Tree.kids t).length : Int) : Int) == 0) else false) = true → (bif (((Tree.kind t) : Int) == 10) then ((((Tree.kids t).length : Int) : Int) == 0) else false) = true)) ∧ ((bif (bif (((Tree.kind t) : Int) == 10) then ((((Tree.kids t).length : Int) : Int) == 0) else false) then ((((Tree.words t).length : Int) : Int) == 1) else false) = true → (bif (bif (((Tree.kind t) : Int) == 10) then ((((Tree.kids t).length : Int) : Int) == 0) else false) then ((((Tree.words t).length : Int) : Int) == 1) else false) = true) ∧ ((bif (bif (((Tree.kind t) : Int) == 10) then ((((Tree.kids t).length : Int) : Int) == 0) else false) then ((((Tree.words t).length : Int) : Int) == 1) else false) = true → InR ((l : Int) - 2)) ∧ ((bif (bif (((Tree.kind t) : Int) == 10) then ((((Tree.kids t).length : Int) : Int) == 0) else false) then ((((Tree.words t).length : Int) : Int) == 1) else false) = true → (bif (bif (((Tree.kind t) : Int) == 10) then ((((Tree.kids t).length : Int) : Int) == 0) else false) then ((((Tree.words t).length : Int) : Int) == 1) else false) = true) ∧ ((bif (bif (((Tree.kind t) : Int) == 10) then ((((Tree.kids t).length : Int) : Int) == 0) else false) then ((((Tree.words t).length : Int) : Int) == 1) else false) = true → (bif (bif (((Tree.kind t) : Int) == 10) then ((((Tree.kids t).length : Int) : Int) == 0) else false) then ((((Tree.words t).length : Int) : Int) == 1) else false) = true) ∧ ((bif (bif (((Tree.kind t) : Int) == 10) then ((((Tree.kids t).length : Int) : Int) == 0) else false) then ((((Tree.words t).length : Int) : Int) == 1) else false) = true → (0 : Int) ≤ 0 ∧ 0 < ((Tree.words t).length : Int)) ∧ ((bif (bif (((Tree.kind t) : Int) == 10) then ((((Tree.kids t).length : Int) : Int) == 0) else false) then ((((Tree.words t).length : Int) : Int) == 1) else false) = true → (bif (bif (((Tree.kind t) : Int) == 10) then ((((Tree.kids t).length : Int) : Int) == 0) else false) then ((((Tree.words t).length : Int) : Int) == 1) else false) = true) ∧ ((bif (bif (((Tree.kind t) : Int) == 10) then ((((Tree.kids t).length : Int) : Int) == 0) else false) then ((((Tree.words t).length : Int) : Int) == 1) else false) = true → (bif (bif (((Tree.kind t) : Int) == 10) then ((((Tree.kids t).length : Int) : Int) == 0) else false) then ((((Tree.words t).length : Int) : Int) == 1) else false) = true) ∧ ((bif (bif (((Tree.kind t) : Int) == 10) then ((((Tree.kids t).length : Int) : Int) == 0) else false) then ((((Tree.words t).length : Int) : Int) == 1) else false) = true → (bif (bif (((Tree.kind t) : Int) == 10) then ((((Tree.kids t).length : Int) : Int) == 0) else false) then ((((Tree.words t).length : Int) : Int) == 1) else false) = true) ∧ ((bif (bif (((Tree.kind t) : Int) == 10) then ((((Tree.kids t).length : Int) : Int) == 0) else false) then ((((Tree.words t).length : Int) : Int) == 1) else false) = true → pre121 (((l : Int) - 2), (List.getD (Tree.words t) (Int.toNat 0) (0 : Int)), ())) ∧ (((bif (bif (((Tree.kind t) : Int) == 10) then ((((Tree.kids t).length : Int) : Int) == 0) else false) then ((((Tree.words t).length : Int) : Int) == 1) else false) = true → (bif (bif (((Tree.kind t) : Int) == 10) then ((((Tree.kids t).length : Int) : Int) == 0) else false) then ((((Tree.words t).length : Int) : Int) == 1) else false) = true)) ∧ (Q .ret (⟨[(4, .c (.bool (bif (bif (bif (((Tree.kind t) : Int) == 10) then ((((Tree.kids t).length : Int) : Int) == 0) else false) then ((((Tree.words t).length : Int) : Int) == 1) else false) then (fits ((l : Int) - 2) (List.getD (Tree.words t) (Int.toNat 0) (0 : Int))) else false)))], [], []⟩ : LSt U))) ∧ ((decide (2 ≤ l ∧ l ≤ 7)) = false → ((((l : Int) == 9) = true → (Q .ret (⟨[(4, .c (.bool (((Tree.kind t) : Int) == 1)))], [], []⟩ : LSt U))) ∧ (((l : Int) == 9) = false → (Q .ret (⟨[(4, .c (.bool (((Tree.kind t) : Int) != 10)))], [], []⟩ : LSt U)))))))) := by kernel_rfl
  exact e.mpr ⟨h.1, ⟨fun c_10 => ⟨fun x => x, fun x => x, fun x => x, (by generalize (((Tree.kind t) : Int) == 10) = b0; revert b0; decide), fun x => x, fun x => x, fun x => x, (by generalize ((((Tree.kids t).length : Int) : Int) == 0) = b0; generalize (((Tree.kind t) : Int) == 10) = b1; revert b0 b1; decide), fun x => x, (h.2.1 c_10).1, fun x => x, fun x => x, (h.2.1 c_10).2.1, fun x => x, fun x => x, fun x => x, (h.2.1 c_10).2.2.1, (by generalize ((((Tree.words t).length : Int) : Int) == 1) = b0; generalize ((((Tree.kids t).length : Int) : Int) == 0) = b1; generalize (((Tree.kind t) : Int) == 10) = b2; revert b0 b1 b2; decide), (h.2.1 c_10).2.2.2⟩, fun c_10 => ⟨fun c_11 => ((h.2.2 c_10).1 c_11), fun c_11 => ((h.2.2 c_10).2 c_11)⟩⟩⟩
def Body117 (l : Int) (t : Tree)  : Prop := awp cfg (know (know117)) (drawOk cfg (know (know117))) Try.f117.ntmps lv117 (cd Try.f117 []) (entry (args117.can (l, t, ())) []) (EndsQ cfg Try.f117.ntmps Try.f117.results.toList (res117 (l, t, ())) [])
theorem make117 (c107 : Contract Try.prog cfg 107 spec107) (c121 : Contract Try.prog cfg 121 spec121) (hb : ∀ (l : Int) (t : Tree) (_ : Unit), pre117 (l, t, ()) → Body117 l t) : Contract Try.prog cfg 117 spec117 :=
  contract_flat (l := [(107, spec107), (121, spec121)]) cfgOk rfl (⟨c107, c121, trivial⟩) lv117 Try.func117 rfl rfl 2 (fun _ => rfl) (by decide) (fun ⟨l, t, _⟩ => hb l t ())

noncomputable def know94 (N : Nat) : List (FuncId × Fs U) := (94, fs args94 (fun a => [pre94 a, mu94 a < N]) res94) :: [(116, spec116), (117, spec117)]
def lv94 : Lives U := fun i => match i with
  | 0 => ([(1, []), (2, [])], [((.loc 2), [])])
  | 1 => ([(1, []), (2, []), (8, [])], [((.loc 2), [])])
  | 2 => ([(4, [])], [])
  | 3 => ([(1, []), (2, []), (22, [])], [((.loc 2), [])])
  | 4 => ([(4, [])], [])
  | 5 => ([(1, []), (2, []), (36, [])], [((.loc 2), [])])
  | 6 => ([(4, [])], [])
  | 7 => ([(1, []), (2, []), (39, [])], [((.loc 2), [])])
  | 8 => ([(1, []), (2, []), (52, [])], [((.loc 2), [])])
  | 9 => ([(4, [])], [])
  | 10 => ([(1, []), (2, []), (53, [])], [((.loc 2), [])])
  | 11 => ([(4, [])], [])
  | 12 => ([(1, []), (2, []), (71, []), (72, []), (73, [])], [((.loc 2), [])])
  | 13 => ([(1, []), (2, []), (71, []), (72, []), (73, []), (74, [])], [((.loc 2), [])])
  | 14 => ([(1, []), (2, []), (6, []), (71, []), (72, []), (73, [])], [((.loc 2), []), ((.loc 6), [])])
  | 15 => ([(1, []), (2, []), (6, []), (7, []), (71, []), (72, []), (73, [])], [((.loc 2), []), ((.loc 6), [])])
  | 16 => ([(1, []), (2, []), (6, []), (7, []), (71, []), (72, []), (73, []), (82, [])], [((.loc 2), []), ((.loc 6), [])])
  | 17 => ([(1, []), (2, []), (6, []), (7, []), (71, []), (72, []), (73, [])], [((.loc 2), []), ((.loc 6), [])])
  | 18 => ([(1, []), (2, []), (71, []), (72, []), (73, []), (95, [])], [((.loc 2), [])])
  | 19 => ([(4, [])], [])
  | 20 => ([(1, []), (2, []), (71, []), (72, []), (73, [])], [((.loc 2), [])])
  | 21 => ([(4, [])], [])
  | _ => ([], [])
def head94_0 (t : Tree) (d : Int) (x73 : Int) : LSt U := (⟨[(1, .c (.int .i64 d)), (2, .ptr (.loc 2) 0), (71, .c (.slice (U := U) .tree (Tree.kids t) .unk)), (72, .c (.int .i64 ((Tree.kids t).length : Int))), (73, .c (.int .i64 x73))], [((.loc 2), [.int .i64 (Tree.kind t), .slice (U := U) .u64 (Tree.words t) .unk, .slice (U := U) .tree (Tree.kids t) .unk])], []⟩ : LSt U)
theorem vc94 (N : Nat) (t : Tree) (d : Int) (Q : AExit → LSt U → Prop) (h : ((((Tree.kind t) : Int) == 0) = true → Q .ret (⟨[(4, .c (.bool (bif ((((Tree.words t).length : Int) : Int) == 0) then ((((Tree.kids t).length : Int) : Int) == 0) else false)))], [], []⟩ : LSt U)) ∧ ((((Tree.kind t) : Int) == 0) = false → ((((Tree.kind t) : Int) == 10) = true → Q .ret (⟨[(4, .c (.bool (bif ((((Tree.words t).length : Int) : Int) == 1) then ((((Tree.kids t).length : Int) : Int) == 0) else false)))], [], []⟩ : LSt U)) ∧ ((((Tree.kind t) : Int) == 10) = false → (((d : Int) == 0) = true → Q .ret (⟨[(4, .c (.bool false))], [], []⟩ : LSt U)) ∧ (((d : Int) == 0) = false → ((((Tree.kind t) : Int) == 1) = true → ((bif (decide ((65536 : Int) ≤ ((Tree.words t).length : Int))) then true else (decide ((65536 : Int) ≤ ((Tree.kids t).length : Int)))) = true → Q .ret (⟨[(4, .c (.bool false))], [], []⟩ : LSt U)) ∧ ((bif (decide ((65536 : Int) ≤ ((Tree.words t).length : Int))) then true else (decide ((65536 : Int) ≤ ((Tree.kids t).length : Int)))) = false → LoopWp (awp cfg (know (know94 N)) (drawOk cfg (know (know94 N))) Try.f94.ntmps lv94 (cd Try.f94 [1, 1, 0, 1, 0, 0])) (head94_0 t d 0) (AExit.inBlock 1 (seqK cfg (know (know94 N)) (drawOk cfg (know (know94 N))) Try.f94.ntmps lv94 (cd Try.f94 [1, 1, 1]) Q)))) ∧ ((((Tree.kind t) : Int) == 1) = false → (pre116 ((Tree.kind t), ())) ∧ (((bif (bif (!(decide (2 ≤ (Tree.kind t) ∧ (Tree.kind t) ≤ 9))) then true else (decide ((0 : Int) < ((Tree.words t).length : Int)))) then true else (decide ((1048576 : Int) ≤ ((Tree.kids t).length : Int)))) = true → Q .ret (⟨[(4, .c (.bool false))], [], []⟩ : LSt U)) ∧ ((bif (bif (!(decide (2 ≤ (Tree.kind t) ∧ (Tree.kind t) ≤ 9))) then true else (decide ((0 : Int) < ((Tree.words t).length : Int)))) then true else (decide ((1048576 : Int) ≤ ((Tree.kids t).length : Int)))) = false → LoopWp (awp cfg (know (know94 N)) (drawOk cfg (know (know94 N))) Try.f94.ntmps lv94 (cd Try.f94 [1, 1, 0, 1, 0, 0])) (head94_0 t d 0) (AExit.inBlock 1 (seqK cfg (know (know94 N)) (drawOk cfg (know (know94 N))) Try.f94.ntmps lv94 (cd Try.f94 [1, 1, 1]) Q))))))))) :
    awp cfg (know (know94 N)) (drawOk cfg (know (know94 N))) Try.f94.ntmps lv94 (cd Try.f94 []) (⟨[(0, .agg [.int .i64 (Tree.kind t), .slice (U := U) .u64 (Tree.words t) .unk, .slice (U := U) .tree (Tree.kids t) .unk]), (1, .c (.int .i64 d))], [], []⟩ : LSt U) Q := by
  have e : (awp cfg (know (know94 N)) (drawOk cfg (know (know94 N))) Try.f94.ntmps lv94 (cd Try.f94 []) (⟨[(0, .agg [.int .i64 (Tree.kind t), .slice (U := U) .u64 (Tree.words t) .unk, .slice (U := U) .tree (Tree.kids t) .unk]), (1, .c (.int .i64 d))], [], []⟩ : LSt U) Q) = (((((((Tree.kind t) : Int) == 0) = true → (((((Tree.words t).length : Int) : Int) == 0) = true → ((((Tree.words t).length : Int) : Int) == 0) = true) ∧ (((((Tree.words t).length : Int) : Int) == 0) = true → ((((Tree.words t).length : Int) : Int) == 0) = true) ∧ (((((Tree.words t).length : Int) : Int) == 0) = true → ((((Tree.words t).length : Int) : Int) == 0) = true) ∧ ((((((Tree.words t).length : Int) : Int) == 0) = true → ((((Tree.words t).length : Int) : Int) == 0) = true)) ∧ (Q .ret (⟨[(4, .c (.bool (bif ((((Tree.words t).length : Int) : Int) == 0) then ((((Tree.kids t).length : Int) : Int) == 0) else false)))], [], []⟩ : LSt U))) ∧ ((((Tree.kind t) : Int) == 0) = false → (((((Tree.kind t) : Int) == 10) = true → (((((Tree.words t).length : Int) : Int) == 1) = true → ((((Tree.words t).length : Int) : Int) == 1) = true) ∧ (((((Tree.words t).length : Int) : Int) == 1) = true → ((((Tree.words t).length : Int) : Int) == 1) = true) ∧ (((((Tree.words t).length : Int) : Int) == 1) = true → ((((Tree.words t).length : Int) : Int) == 1) = true) ∧ ((((((Tree.words t).length : Int) : Int) == 1) = true → ((((Tree.words t).length : Int) : Int) == 1) = true)) ∧ (Q .ret (⟨[(4, .c (.bool (bif ((((Tree.words t).length : Int) : Int) == 1) then ((((Tree.kids t).length : Int) : Int) == 0) else false)))], [], []⟩ : LSt U))) ∧ ((((Tree.kind t) : Int) == 10) = false → ((((d : Int) == 0) = true → (Q .ret (⟨[(4, .c (.bool false))], [], []⟩ : LSt U))) ∧ (((d : Int) == 0) = false → (((((Tree.kind t) : Int) == 1) = true → ((!(decide ((65536 : Int) ≤ ((Tree.words t).length : Int)))) = true → (!(decide ((65536 : Int) ≤ ((Tree.words t).length : Int)))) = true) ∧ ((!(decide ((65536 : Int) ≤ ((Tree.words t).length : Int)))) = true → (!(decide ((65536 : Int) ≤ ((Tree.words t).length : Int)))) = true) ∧ ((!(decide ((65536 : Int) ≤ ((Tree.words t).length : Int)))) = true → (!(decide ((65536 : Int) ≤ ((Tree.words t).length : Int)))) = true) ∧ (((decide ((65536 : Int) ≤ ((Tree.words t).length : Int))) = false → (!(decide ((65536 : Int) ≤ ((Tree.words t).length : Int)))) = true)) ∧ (((bif (decide ((65536 : Int) ≤ ((Tree.words t).length : Int))) then true else (decide ((65536 : Int) ≤ ((Tree.kids t).length : Int)))) = true → (Q .ret (⟨[(4, .c (.bool false))], [], []⟩ : LSt U))) ∧ ((bif (decide ((65536 : Int) ≤ ((Tree.words t).length : Int))) then true else (decide ((65536 : Int) ≤ ((Tree.kids t).length : Int)))) = false → (LoopWp (awp cfg (know (know94 N)) (drawOk cfg (know (know94 N))) Try.f94.ntmps lv94 (cd Try.f94 [1, 1, 0, 1, 0, 0])) (head94_0 t d 0) (AExit.inBlock 1 (seqK cfg (know (know94 N)) (drawOk cfg (know (know94 N))) Try.f94.ntmps lv94 (cd Try.f94 [1, 1, 1]) Q)))))) ∧ ((((Tree.kind t) : Int) == 1) = false → (pre116 ((Tree.kind t), ())) ∧ ((!(!(decide (2 ≤ (Tree.kind t) ∧ (Tree.kind t) ≤ 9)))) = true → (!(!(decide (2 ≤ (Tree.kind t) ∧ (Tree.kind t) ≤ 9)))) = true) ∧ ((!(!(decide (2 ≤ (Tree.kind t) ∧ (Tree.kind t) ≤ 9)))) = true → (!(!(decide (2 ≤ (Tree.kind t) ∧ (Tree.kind t) ≤ 9)))) = true) ∧ ((!(!(decide (2 ≤ (Tree.kind t) ∧ (Tree.kind t) ≤ 9)))) = true → (!(!(decide (2 ≤ (Tree.kind t) ∧ (Tree.kind t) ≤ 9)))) = true) ∧ (((!(decide (2 ≤ (Tree.kind t) ∧ (Tree.kind t) ≤ 9))) = false → (!(!(decide (2 ≤ (Tree.kind t) ∧ (Tree.kind t) ≤ 9)))) = true)) ∧ ((!(bif (!(decide (2 ≤ (Tree.kind t) ∧ (Tree.kind t) ≤ 9))) then true else (decide ((0 : Int) < ((Tree.words t).length : Int))))) = true → (!(bif (!(decide (2 ≤ (Tree.kind t) ∧ (Tree.kind t) ≤ 9))) then true else (decide ((0 : Int) < ((Tree.words t).length : Int))))) = true) ∧ ((!(bif (!(decide (2 ≤ (Tree.kind t) ∧ (Tree.kind t) ≤ 9))) then true else (decide ((0 : Int) < ((Tree.words t).length : Int))))) = true → (!(bif (!(decide (2 ≤ (Tree.kind t) ∧ (Tree.kind t) ≤ 9))) then true else (decide ((0 : Int) < ((Tree.words t).length : Int))))) = true) ∧ ((!(bif (!(decide (2 ≤ (Tree.kind t) ∧ (Tree.kind t) ≤ 9))) then true else (decide ((0 : Int) < ((Tree.words t).length : Int))))) = true → (!(bif (!(decide (2 ≤ (Tree.kind t) ∧ (Tree.kind t) ≤ 9))) then true else (decide ((0 : Int) < ((Tree.words t).length : Int))))) = true) ∧ (((bif (!(decide (2 ≤ (Tree.kind t) ∧ (Tree.kind t) ≤ 9))) then true else (decide ((0 : Int) < ((Tree.words t).length : Int)))) = false → (!(bif (!(decide (2 ≤ (Tree.kind t) ∧ (Tree.kind t) ≤ 9))) then true else (decide ((0 : Int) < ((Tree.words t).length : Int))))) = true)) ∧ (((bif (bif (!(decide (2 ≤ (Tree.kind t) ∧ (Tree.kind t) ≤ 9))) then true else (decide ((0 : Int) < ((Tree.words t).length : Int)))) then true else (decide ((1048576 : Int) ≤ ((Tree.kids t).length : Int)))) = true → (Q .ret (⟨[(4, .c (.bool false))], [], []⟩ : LSt U))) ∧ ((bif (bif (!(decide (2 ≤ (Tree.kind t) ∧ (Tree.kind t) ≤ 9))) then true else (decide ((0 : Int) < ((Tree.words t).length : Int)))) then true else (decide ((1048576 : Int) ≤ ((Tree.kids t).length : Int)))) = false → (LoopWp (awp cfg (know (know94 N)) (drawOk cfg (know (know94 N))) Try.f94.ntmps lv94 (cd Try.f94 [1, 1, 0, 1, 0, 0])) (head94_0 t d 0) (AExit.inBlock 1 (seqK cfg (know (know94 N)) (drawOk cfg (know (know94 N))) Try.f94.ntmps lv94 (cd Try.f94 [1, 1, 1]) Q))))))))))))))) := by kernel_rfl
  exact e.mpr ⟨fun c_12 => ⟨fun x => x, fun x => x, fun x => x, (by generalize ((((Tree.words t).length : Int) : Int) == 0) = b0; revert b0; decide), (h.1 c_12)⟩, fun c_12 => ⟨fun c_13 => ⟨fun x => x, fun x => x, fun x => x, (by generalize ((((Tree.words t).length : Int) : Int) == 1) = b0; revert b0; decide), ((h.2 c_12).1 c_13)⟩, fun c_13 => ⟨fun c_14 => (((h.2 c_12).2 c_13).1 c_14), fun c_14 => ⟨fun c_15 => ⟨fun x => x, fun x => x, fun x => x, (by generalize (decide ((65536 : Int) ≤ ((Tree.words t).length : Int))) = b0; revert b0; decide), ⟨fun c_16 => (((((h.2 c_12).2 c_13).2 c_14).1 c_15).1 c_16), fun c_16 => (((((h.2 c_12).2 c_13).2 c_14).1 c_15).2 c_16)⟩⟩, fun c_15 => ⟨((((h.2 c_12).2 c_13).2 c_14).2 c_15).1, fun x => x, fun x => x, fun x => x, (by generalize (decide (2 ≤ (Tree.kind t) ∧ (Tree.kind t) ≤ 9)) = b0; revert b0; decide), fun x => x, fun x => x, fun x => x, (by generalize (decide ((0 : Int) < ((Tree.words t).length : Int))) = b0; generalize (decide (2 ≤ (Tree.kind t) ∧ (Tree.kind t) ≤ 9)) = b1; revert b0 b1; decide), ⟨fun c_17 => (((((h.2 c_12).2 c_13).2 c_14).2 c_15).2.1 c_17), fun c_17 => (((((h.2 c_12).2 c_13).2 c_14).2 c_15).2.2 c_17)⟩⟩⟩⟩⟩⟩
theorem vc94_l0 (N : Nat) (t : Tree) (d : Int) (x73 : Int) (N0 : LSt U → Prop) (Q : AExit → LSt U → Prop) (h : ((decide ((x73 : Int) < ((Tree.kids t).length : Int))) = true → ((0 : Int) ≤ x73 ∧ x73 < ((Tree.kids t).length : Int)) ∧ (((((Tree.kind t) : Int) != 1) = true → (pre117 ((Tree.kind t), (Tree.mk (Tree.kind (List.getD (Tree.kids t) (Int.toNat x73) Tree.nil)) (Tree.words (List.getD (Tree.kids t) (Int.toNat x73) Tree.nil)) (Tree.kids (List.getD (Tree.kids t) (Int.toNat x73) Tree.nil))), ())) ∧ (((!(!(kidB (Tree.kind t) (Tree.mk (Tree.kind (List.getD (Tree.kids t) (Int.toNat x73) Tree.nil)) (Tree.words (List.getD (Tree.kids t) (Int.toNat x73) Tree.nil)) (Tree.kids (List.getD (Tree.kids t) (Int.toNat x73) Tree.nil)))))) = true → InR ((d : Int) - 1)) ∧ ((!(!(kidB (Tree.kind t) (Tree.mk (Tree.kind (List.getD (Tree.kids t) (Int.toNat x73) Tree.nil)) (Tree.words (List.getD (Tree.kids t) (Int.toNat x73) Tree.nil)) (Tree.kids (List.getD (Tree.kids t) (Int.toNat x73) Tree.nil)))))) = true → pre94 ((Tree.mk (Tree.kind (List.getD (Tree.kids t) (Int.toNat x73) Tree.nil)) (Tree.words (List.getD (Tree.kids t) (Int.toNat x73) Tree.nil)) (Tree.kids (List.getD (Tree.kids t) (Int.toNat x73) Tree.nil))), ((d : Int) - 1), ())) ∧ ((!(!(kidB (Tree.kind t) (Tree.mk (Tree.kind (List.getD (Tree.kids t) (Int.toNat x73) Tree.nil)) (Tree.words (List.getD (Tree.kids t) (Int.toNat x73) Tree.nil)) (Tree.kids (List.getD (Tree.kids t) (Int.toNat x73) Tree.nil)))))) = true → mu94 ((Tree.mk (Tree.kind (List.getD (Tree.kids t) (Int.toNat x73) Tree.nil)) (Tree.words (List.getD (Tree.kids t) (Int.toNat x73) Tree.nil)) (Tree.kids (List.getD (Tree.kids t) (Int.toNat x73) Tree.nil))), ((d : Int) - 1), ()) < N) ∧ (((bif (!(kidB (Tree.kind t) (Tree.mk (Tree.kind (List.getD (Tree.kids t) (Int.toNat x73) Tree.nil)) (Tree.words (List.getD (Tree.kids t) (Int.toNat x73) Tree.nil)) (Tree.kids (List.getD (Tree.kids t) (Int.toNat x73) Tree.nil))))) then true else (!(rightT (Tree.mk (Tree.kind (List.getD (Tree.kids t) (Int.toNat x73) Tree.nil)) (Tree.words (List.getD (Tree.kids t) (Int.toNat x73) Tree.nil)) (Tree.kids (List.getD (Tree.kids t) (Int.toNat x73) Tree.nil))) ((d : Int) - 1)))) = true → Q .ret (⟨[(4, .c (.bool false))], [], []⟩ : LSt U)) ∧ ((bif (!(kidB (Tree.kind t) (Tree.mk (Tree.kind (List.getD (Tree.kids t) (Int.toNat x73) Tree.nil)) (Tree.words (List.getD (Tree.kids t) (Int.toNat x73) Tree.nil)) (Tree.kids (List.getD (Tree.kids t) (Int.toNat x73) Tree.nil))))) then true else (!(rightT (Tree.mk (Tree.kind (List.getD (Tree.kids t) (Int.toNat x73) Tree.nil)) (Tree.words (List.getD (Tree.kids t) (Int.toNat x73) Tree.nil)) (Tree.kids (List.getD (Tree.kids t) (Int.toNat x73) Tree.nil))) ((d : Int) - 1)))) = false → (InR ((x73 : Int) + 1)) ∧ (N0 (head94_0 t d ((x73 : Int) + 1))))))) ∧ ((((Tree.kind t) : Int) != 1) = false → ((!(!(((Tree.kind (List.getD (Tree.kids t) (Int.toNat x73) Tree.nil)) : Int) != 10))) = true → InR ((d : Int) - 1)) ∧ ((!(!(((Tree.kind (List.getD (Tree.kids t) (Int.toNat x73) Tree.nil)) : Int) != 10))) = true → pre94 ((Tree.mk (Tree.kind (List.getD (Tree.kids t) (Int.toNat x73) Tree.nil)) (Tree.words (List.getD (Tree.kids t) (Int.toNat x73) Tree.nil)) (Tree.kids (List.getD (Tree.kids t) (Int.toNat x73) Tree.nil))), ((d : Int) - 1), ())) ∧ ((!(!(((Tree.kind (List.getD (Tree.kids t) (Int.toNat x73) Tree.nil)) : Int) != 10))) = true → mu94 ((Tree.mk (Tree.kind (List.getD (Tree.kids t) (Int.toNat x73) Tree.nil)) (Tree.words (List.getD (Tree.kids t) (Int.toNat x73) Tree.nil)) (Tree.kids (List.getD (Tree.kids t) (Int.toNat x73) Tree.nil))), ((d : Int) - 1), ()) < N) ∧ (((bif (!(((Tree.kind (List.getD (Tree.kids t) (Int.toNat x73) Tree.nil)) : Int) != 10)) then true else (!(rightT (Tree.mk (Tree.kind (List.getD (Tree.kids t) (Int.toNat x73) Tree.nil)) (Tree.words (List.getD (Tree.kids t) (Int.toNat x73) Tree.nil)) (Tree.kids (List.getD (Tree.kids t) (Int.toNat x73) Tree.nil))) ((d : Int) - 1)))) = true → Q .ret (⟨[(4, .c (.bool false))], [], []⟩ : LSt U)) ∧ ((bif (!(((Tree.kind (List.getD (Tree.kids t) (Int.toNat x73) Tree.nil)) : Int) != 10)) then true else (!(rightT (Tree.mk (Tree.kind (List.getD (Tree.kids t) (Int.toNat x73) Tree.nil)) (Tree.words (List.getD (Tree.kids t) (Int.toNat x73) Tree.nil)) (Tree.kids (List.getD (Tree.kids t) (Int.toNat x73) Tree.nil))) ((d : Int) - 1)))) = false → (InR ((x73 : Int) + 1)) ∧ (N0 (head94_0 t d ((x73 : Int) + 1)))))))) ∧ ((decide ((x73 : Int) < ((Tree.kids t).length : Int))) = false → Q .ret (⟨[(4, .c (.bool true))], [], []⟩ : LSt U))) :
    awp cfg (know (know94 N)) (drawOk cfg (know (know94 N))) Try.f94.ntmps lv94 (cd Try.f94 [1, 1, 0, 1, 0, 0]) (head94_0 t d x73) (AExit.then N0 (AExit.inBlock 1 (seqK cfg (know (know94 N)) (drawOk cfg (know (know94 N))) Try.f94.ntmps lv94 (cd Try.f94 [1, 1, 1]) Q))) := by
  have e : (awp cfg (know (know94 N)) (drawOk cfg (know (know94 N))) Try.f94.ntmps lv94 (cd Try.f94 [1, 1, 0, 1, 0, 0]) (head94_0 t d x73) (AExit.then N0 (AExit.inBlock 1 (seqK cfg (know (know94 N)) (drawOk cfg (know (know94 N))) Try.f94.ntmps lv94 (cd Try.f94 [1, 1, 1]) Q)))) = ((((decide ((x73 : Int) < ((Tree.kids t).length : Int))) = true → ((0 : Int) ≤ x73 ∧ x73 < ((Tree.kids t).length : Int)) ∧ (((((((Tree.kind t) : Int) != 1) = true → (pre117 ((Tree.kind t), (Tree.mk (Tree.kind (List.getD (Tree.kids t) (Int.toNat x73) Tree.nil)) (Tree.words (List.getD (Tree.kids t) (Int.toNat x73) Tree.nil)) (Tree.kids (List.getD (Tree.kids t) (Int.toNat x73) Tree.nil))), ())) ∧ (((!(!(kidB (Tree.kind t) (Tree.mk (Tree.kind (List.getD (Tree.kids t) (Int.toNat x73) Tree.nil)) (Tree.words (List.getD (Tree.kids t) (Int.toNat x73) Tree.nil)) (Tree.kids (List.getD (Tree.kids t) (Int.toNat x73) Tree.nil)))))) = true → (!(!(kidB (Tree.kind t) (Tree.mk (Tree.kind (List.getD (Tree.kids t) (Int.toNat x73) Tree.nil)) (Tree.words (List.getD (Tree.kids t) (Int.toNat x73) Tree.nil)) (Tree.kids (List.getD (Tree.kids t) (Int.toNat x73) Tree.nil)))))) = true) ∧ ((!(!(kidB (Tree.kind t) (Tree.mk (Tree.kind (List.getD (Tree.kids t) (Int.toNat x73) Tree.nil)) (Tree.words (List.getD (Tree.kids t) (Int.toNat x73) Tree.nil)) (Tree.kids (List.getD (Tree.kids t) (Int.toNat x73) Tree.nil)))))) = true → InR ((d : Int) - 1)) ∧ ((!(!(kidB (Tree.kind t) (Tree.mk (Tree.kind (List.getD (Tree.kids t) (Int.toNat x73) Tree.nil)) (Tree.words (List.getD (Tree.kids t) (Int.toNat x73) Tree.nil)) (Tree.kids (List.getD (Tree.kids t) (Int.toNat x73) Tree.nil)))))) = true → (!(!(kidB (Tree.kind t) (Tree.mk (Tree.kind (List.getD (Tree.kids t) (Int.toNat x73) Tree.nil)) (Tree.words (List.getD (Tree.kids t) (Int.toNat x73) Tree.nil)) (Tree.kids (List.getD (Tree.kids t) (Int.toNat x73) Tree.nil)))))) = true) ∧ ((!(!(kidB (Tree.kind t) (Tree.mk (Tree.kind (List.getD (Tree.kids t) (Int.toNat x73) Tree.nil)) (Tree.words (List.getD (Tree.kids t) (Int.toNat x73) Tree.nil)) (Tree.kids (List.getD (Tree.kids t) (Int.toNat x73) Tree.nil)))))) = true → (!(!(kidB (Tree.kind t) (Tree.mk (Tree.kind (List.getD (Tree.kids t) (Int.toNat x73) Tree.nil)) (Tree.words (List.getD (Tree.kids t) (Int.toNat x73) Tree.nil)) (Tree.kids (List.getD (Tree.kids t) (Int.toNat x73) Tree.nil)))))) = true) ∧ ((!(!(kidB (Tree.kind t) (Tree.mk (Tree.kind (List.getD (Tree.kids t) (Int.toNat x73) Tree.nil)) (Tree.words (List.getD (Tree.kids t) (Int.toNat x73) Tree.nil)) (Tree.kids (List.getD (Tree.kids t) (Int.toNat x73) Tree.nil)))))) = true → pre94 ((Tree.mk (Tree.kind (List.getD (Tree.kids t) (Int.toNat x73) Tree.nil)) (Tree.words (List.getD (Tree.kids t) (Int.toNat x73) Tree.nil)) (Tree.kids (List.getD (Tree.kids t) (Int.toNat x73) Tree.nil))), ((d : Int) - 1), ())) ∧ ((!(!(kidB (Tree.kind t) (Tree.mk (Tree.kind (List.getD (Tree.kids t) (Int.toNat x73) Tree.nil)) (Tree.words (List.getD (Tree.kids t) (Int.toNat x73) Tree.nil)) (Tree.kids (List.getD (Tree.kids t) (Int.toNat x73) Tree.nil)))))) = true → mu94 ((Tree.mk (Tree.kind (List.getD (Tree.kids t) (Int.toNat x73) Tree.nil)) (Tree.words (List.getD (Tree.kids t) (Int.toNat x73) Tree.nil)) (Tree.kids (List.getD (Tree.kids t) (Int.toNat x73) Tree.nil))), ((d : Int) - 1), ()) < N) ∧ ((!(!(kidB (Tree.kind t) (Tree.mk (Tree.kind (List.getD (Tree.kids t) (Int.toNat x73) Tree.nil)) (Tree.words (List.getD (Tree.kids t) (Int.toNat x73) Tree.nil)) (Tree.kids (List.getD (Tree.kids t) (Int.toNat x73) Tree.nil)))))) = true → (!(!(kidB (Tree.kind t) (Tree.mk (Tree.kind (List.getD (Tree.kids t) (Int.toNat x73) Tree.nil)) (Tree.words (List.getD (Tree.kids t) (Int.toNat x73) Tree.nil)) (Tree.kids (List.getD (Tree.kids t) (Int.toNat x73) Tree.nil)))))) = true) ∧ (((!(kidB (Tree.kind t) (Tree.mk (Tree.kind (List.getD (Tree.kids t) (Int.toNat x73) Tree.nil)) (Tree.words (List.getD (Tree.kids t) (Int.toNat x73) Tree.nil)) (Tree.kids (List.getD (Tree.kids t) (Int.toNat x73) Tree.nil))))) = false → (!(!(kidB (Tree.kind t) (Tree.mk (Tree.kind (List.getD (Tree.kids t) (Int.toNat x73) Tree.nil)) (Tree.words (List.getD (Tree.kids t) (Int.toNat x73) Tree.nil)) (Tree.kids (List.getD (Tree.kids t) (Int.toNat x73) Tree.nil)))))) = true)) ∧ (((bif (!(kidB (Tree.kind t) (Tree.mk (Tree.kind (List.getD (Tree.kids t) (Int.toNat x73) Tree.nil)) (Tree.words (List.getD (Tree.kids t) (Int.toNat x73) Tree.nil)) (Tree.kids (List.getD (Tree.kids t) (Int.toNat x73) Tree.nil))))) then true else (!(rightT (Tree.mk (Tree.kind (List.getD (Tree.kids t) (Int.toNat x73) Tree.nil)) (Tree.words (List.getD (Tree.kids t) (Int.toNat x73) Tree.nil)) (Tree.kids (List.getD (Tree.kids t) (Int.toNat x73) Tree.nil))) ((d : Int) - 1)))) = true → (Q .ret (⟨[(4, .c (.bool false))], [], []⟩ : LSt U))) ∧ ((bif (!(kidB (Tree.kind t) (Tree.mk (Tree.kind (List.getD (Tree.kids t) (Int.toNat x73) Tree.nil)) (Tree.words (List.getD (Tree.kids t) (Int.toNat x73) Tree.nil)) (Tree.kids (List.getD (Tree.kids t) (Int.toNat x73) Tree.nil))))) then true else (!(rightT (Tree.mk (Tree.kind (List.getD (Tree.kids t) (Int.toNat x73) Tree.nil)) (Tree.words (List.getD (Tree.kids t) (Int.toNat x73) Tree.nil)) (Tree.kids (List.getD (Tree.kids t) (Int.toNat x73) Tree.nil))) ((d : Int) - 1)))) = false → (InR ((x73 : Int) + 1)) ∧ (N0 (head94_0 t d ((x73 : Int) + 1))))))) ∧ ((((Tree.kind t) : Int) != 1) = false → ((!(!(((Tree.kind (List.getD (Tree.kids t) (Int.toNat x73) Tree.nil)) : Int) != 10))) = true → (!(!(((Tree.kind (List.getD (Tree.kids t) (Int.toNat x73) Tree.nil)) : Int) != 10))) = true) ∧ ((!(!(((Tree.kind (List.getD (Tree.kids t) (Int.toNat x73) Tree.nil)) : Int) != 10))) = true → InR ((d : Int) - 1)) ∧ ((!(!(((Tree.kind (List.getD (Tree.kids t) (Int.toNat x73) Tree.nil)) : Int) != 10))) = true → (!(!(((Tree.kind (List.getD (Tree.kids t) (Int.toNat x73) Tree.nil)) : Int) != 10))) = true) ∧ ((!(!(((Tree.kind (List.getD (Tree.kids t) (Int.toNat x73) Tree.nil)) : Int) != 10))) = true → (!(!(((Tree.kind (List.getD (Tree.kids t) (Int.toNat x73) Tree.nil)) : Int) != 10))) = true) ∧ ((!(!(((Tree.kind (List.getD (Tree.kids t) (Int.toNat x73) Tree.nil)) : Int) != 10))) = true → pre94 ((Tree.mk (Tree.kind (List.getD (Tree.kids t) (Int.toNat x73) Tree.nil)) (Tree.words (List.getD (Tree.kids t) (Int.toNat x73) Tree.nil)) (Tree.kids (List.getD (Tree.kids t) (Int.toNat x73) Tree.nil))), ((d : Int) - 1), ())) ∧ ((!(!(((Tree.kind (List.getD (Tree.kids t) (Int.toNat x73) Tree.nil)) : Int) != 10))) = true → mu94 ((Tree.mk (Tree.kind (List.getD (Tree.kids t) (Int.toNat x73) Tree.nil)) (Tree.words (List.getD (Tree.kids t) (Int.toNat x73) Tree.nil)) (Tree.kids (List.getD (Tree.kids t) (Int.toNat x73) Tree.nil))), ((d : Int) - 1), ()) < N) ∧ ((!(!(((Tree.kind (List.getD (Tree.kids t) (Int.toNat x73) Tree.nil)) : Int) != 10))) = true → (!(!(((Tree.kind (List.getD (Tree.kids t) (Int.toNat x73) Tree.nil)) : Int) != 10))) = true) ∧ (((!(((Tree.kind (List.getD (Tree.kids t) (Int.toNat x73) Tree.nil)) : Int) != 10)) = false → (!(!(((Tree.kind (List.getD (Tree.kids t) (Int.toNat x73) Tree.nil)) : Int) != 10))) = true)) ∧ (((bif (!(((Tree.kind (List.getD (Tree.kids t) (Int.toNat x73) Tree.nil)) : Int) != 10)) then true else (!(rightT (Tree.mk (Tree.kind (List.getD (Tree.kids t) (Int.toNat x73) Tree.nil)) (Tree.words (List.getD (Tree.kids t) (Int.toNat x73) Tree.nil)) (Tree.kids (List.getD (Tree.kids t) (Int.toNat x73) Tree.nil))) ((d : Int) - 1)))) = true → (Q .ret (⟨[(4, .c (.bool false))], [], []⟩ : LSt U))) ∧ ((bif (!(((Tree.kind (List.getD (Tree.kids t) (Int.toNat x73) Tree.nil)) : Int) != 10)) then true else (!(rightT (Tree.mk (Tree.kind (List.getD (Tree.kids t) (Int.toNat x73) Tree.nil)) (Tree.words (List.getD (Tree.kids t) (Int.toNat x73) Tree.nil)) (Tree.kids (List.getD (Tree.kids t) (Int.toNat x73) Tree.nil))) ((d : Int) - 1)))) = false → (InR ((x73 : Int) + 1)) ∧ (N0 (head94_0 t d ((x73 : Int) + 1)))))))))) ∧ ((decide ((x73 : Int) < ((Tree.kids t).length : Int))) = false → (Q .ret (⟨[(4, .c (.bool true))], [], []⟩ : LSt U))))) := by kernel_rfl
  exact e.mpr ⟨fun c_18 => ⟨(h.1 c_18).1, ⟨fun c_19 => ⟨((h.1 c_18).2.1 c_19).1, ⟨fun x => x, ((h.1 c_18).2.1 c_19).2.1, fun x => x, fun x => x, ((h.1 c_18).2.1 c_19).2.2.1, ((h.1 c_18).2.1 c_19).2.2.2.1, fun x => x, (by generalize (kidB (Tree.kind t) (Tree.mk (Tree.kind (List.getD (Tree.kids t) (Int.toNat x73) Tree.nil)) (Tree.words (List.getD (Tree.kids t) (Int.toNat x73) Tree.nil)) (Tree.kids (List.getD (Tree.kids t) (Int.toNat x73) Tree.nil)))) = b0; revert b0; decide), ⟨fun c_20 => (((h.1 c_18).2.1 c_19).2.2.2.2.1 c_20), fun c_20 => ⟨(((h.1 c_18).2.1 c_19).2.2.2.2.2 c_20).1, (((h.1 c_18).2.1 c_19).2.2.2.2.2 c_20).2⟩⟩⟩⟩, fun c_19 => ⟨fun x => x, ((h.1 c_18).2.2 c_19).1, fun x => x, fun x => x, ((h.1 c_18).2.2 c_19).2.1, ((h.1 c_18).2.2 c_19).2.2.1, fun x => x, (by generalize (((Tree.kind (List.getD (Tree.kids t) (Int.toNat x73) Tree.nil)) : Int) != 10) = b0; revert b0; decide), ⟨fun c_21 => (((h.1 c_18).2.2 c_19).2.2.2.1 c_21), fun c_21 => ⟨(((h.1 c_18).2.2 c_19).2.2.2.2 c_21).1, (((h.1 c_18).2.2 c_19).2.2.2.2 c_21).2⟩⟩⟩⟩⟩, fun c_18 => (h.2 c_18)⟩
def Body94 (N : Nat) (t : Tree) (d : Int)  : Prop := awp cfg (know (know94 N)) (drawOk cfg (know (know94 N))) Try.f94.ntmps lv94 (cd Try.f94 []) (entry (args94.can (t, d, ())) []) (EndsQ cfg Try.f94.ntmps Try.f94.results.toList (res94 (t, d, ())) [])
theorem make94 (c116 : Contract Try.prog cfg 116 spec116) (c117 : Contract Try.prog cfg 117 spec117) (hb : ∀ (N : Nat) (t : Tree) (d : Int) (_ : Unit), pre94 (t, d, ()) → mu94 (t, d, ()) < N + 1 → Body94 N t d) : Contract Try.prog cfg 94 spec94 :=
  contract_rec (μ := mu94) (l := [(116, spec116), (117, spec117)]) cfgOk rfl (⟨c116, c117, trivial⟩) lv94 Try.func94 rfl rfl 2 (fun _ => rfl) (by decide) (fun N ⟨t, d, _⟩ => hb N t d ())

noncomputable def know71 : List (FuncId × Fs U) := [(94, spec94)]
def lv71 : Lives U := fun i => match i with
  | 0 => ([(1, [])], [((.loc 1), [])])
  | 1 => ([(2, [])], [])
  | _ => ([], [])
theorem vc71 (t : Tree) (Q : AExit → LSt U → Prop) (h : (pre94 ((Tree.mk (Tree.kind t) (Tree.words t) (Tree.kids t)), 64, ())) ∧ (Q .ret (⟨[(2, .c (.bool (rightT (Tree.mk (Tree.kind t) (Tree.words t) (Tree.kids t)) 64)))], [], []⟩ : LSt U))) :
    awp cfg (know know71) (drawOk cfg (know know71)) Try.f71.ntmps lv71 (cd Try.f71 []) (⟨[(0, .agg [.int .i64 (Tree.kind t), .slice (U := U) .u64 (Tree.words t) .unk, .slice (U := U) .tree (Tree.kids t) .unk])], [], []⟩ : LSt U) Q := by
  have e : (awp cfg (know know71) (drawOk cfg (know know71)) Try.f71.ntmps lv71 (cd Try.f71 []) (⟨[(0, .agg [.int .i64 (Tree.kind t), .slice (U := U) .u64 (Tree.words t) .unk, .slice (U := U) .tree (Tree.kids t) .unk])], [], []⟩ : LSt U) Q) = (((pre94 ((Tree.mk (Tree.kind t) (Tree.words t) (Tree.kids t)), 64, ())) ∧ (Q .ret (⟨[(2, .c (.bool (rightT (Tree.mk (Tree.kind t) (Tree.words t) (Tree.kids t)) 64)))], [], []⟩ : LSt U)))) := by kernel_rfl
  exact e.mpr ⟨h.1, h.2⟩
def Body71 (t : Tree)  : Prop := awp cfg (know (know71)) (drawOk cfg (know (know71))) Try.f71.ntmps lv71 (cd Try.f71 []) (entry (args71.can (t, ())) []) (EndsQ cfg Try.f71.ntmps Try.f71.results.toList (res71 (t, ())) [])
theorem make71 (c94 : Contract Try.prog cfg 94 spec94) (hb : ∀ (t : Tree) (_ : Unit), pre71 (t, ()) → Body71 t) : Contract Try.prog cfg 71 spec71 :=
  contract_flat (l := [(94, spec94)]) cfgOk rfl (⟨c94, trivial⟩) lv71 Try.func71 rfl rfl 1 (fun _ => rfl) (by decide) (fun ⟨t, _⟩ => hb t ())

end Go.AM.Ythokdjgpdonhgaa

namespace Go.AM.Ythokdjgpdonhgaa
open Go.AM Go.Proofs

mutual
theorem shallow_mass : ∀ (t : Tree) (d l : Int), 0 ≤ shallow t d l → (mass t : Int) + shallow t d l ≤ l
  | .mk _ w ks, d, l, h => by
    simp only [shallow] at h ⊢
    split at h
    · omega
    · rename_i hc
      rw [if_neg hc]
      have := shallowK_mass ks (d - 1) (l - 1 - w.length) h
      simp only [mass]
      omega
theorem shallowK_mass : ∀ (ks : List Tree) (d l : Int), 0 ≤ shallowK ks d l → (massK ks : Int) + shallowK ks d l ≤ l
  | [], d, l, h => by simp [shallowK, massK]
  | t :: r, d, l, h => by
    simp only [shallowK] at h ⊢
    split at h
    · omega
    · rename_i hc
      rw [if_neg hc]
      have h1 := shallowK_mass r d (shallow t d l) h
      have h3 := (shallowK_range r d (shallow t d l) (shallow_range t d l).1).2
      have h2 := shallow_mass t d l (by omega)
      simp only [massK]
      omega
end

end Go.AM.Ythokdjgpdonhgaa

namespace Go.AM.Ythokdjgpdonhgaa
open Go.AM Go.Proofs

theorem fdiv_pow (n : Int) (w : Nat) (h : 0 ≤ n) : (Int.fdiv n (2 ^ w) = 0) ↔ n < 2 ^ w := by
  have hp : (0 : Int) < 2 ^ w := Int.pow_pos (by omega)
  rw [Int.fdiv_eq_ediv_of_nonneg _ (by omega)]
  constructor
  · intro h1
    have := Int.lt_ediv_add_one_mul_self n hp
    rw [h1] at this
    simpa using this
  · intro h1
    exact Int.ediv_eq_zero_of_lt h h1

theorem c121 : Contract Try.prog cfg 121 spec121 := by
  refine make121 c110 ?_
  intro c n _ hp
  simp only [pre121] at hp
  have hw := wd_le c
  refine vc121 _ _ _ ?_
  refine ⟨trivial, fun h => by split <;> omega, ends_bool rfl ?_⟩
  simp only [fits]
  by_cases h0 : 0 ≤ wd c
  · rw [if_neg (by omega)]
    simp only [h0, decide_true, cond_true, true_and]
    by_cases h64 : wd c = 64
    · simp [h64]
      omega
    · have : ((wd c) == 64) = false := by simpa using h64
      rw [this, cond_false, Bool.eq_iff_iff]
      have hm : min (wd c).toNat (IntKind.bits .u64) = (wd c).toNat := by
        show min (wd c).toNat 64 = _
        omega
      rw [hm]
      simp only [beq_iff_eq, decide_eq_true_eq]
      exact fdiv_pow n _ hp.1
  · simp [h0]

theorem c116 : Contract Try.prog cfg 116 spec116 := by
  refine make116 ?_
  intro c _ _
  refine vc116 _ _ ?_
  refine ends_bool rfl ?_
  rw [Bool.eq_iff_iff]
  (simp only [vcS])

theorem rng_word {t : Tree} (h : rng t) {i : Nat} (hi : i < t.words.length) : 0 ≤ t.words.getD i 0 ∧ t.words.getD i 0 < 18446744073709551616 := by
  obtain ⟨k, w, ks⟩ := t
  simp only [rng] at h
  simp only [Tree.words_mk] at *
  have hg : w.getD i 0 ∈ w := by
    simp only [List.getD, List.getElem?_eq_getElem hi, Option.getD_some]
    exact List.getElem_mem hi
  exact h.2.1 _ hg

theorem c117 : Contract Try.prog cfg 117 spec117 := by
  refine make117 c107 c121 ?_
  intro l t _ hp
  simp only [pre117] at hp
  refine vc117 _ _ _ ?_
  (simp only [vcS])
  refine ⟨trivial, fun hd => ⟨fun _ => by unfold InR; omega, fun h => by omega, fun h => rng_word hp (by omega), ends_bool rfl ?_⟩, fun hd => ⟨fun h => ends_bool rfl ?_, fun h => ends_bool rfl ?_⟩⟩
  · simp only [kidB, if_pos hd, Int.toNat_zero]
    rw [Bool.eq_iff_iff]
    (simp only [vcS])
    constructor <;> (rintro ⟨h1, h2⟩; exact ⟨by omega, h2⟩)
  · simp only [kidB, if_neg hd, if_pos h]
    rw [Bool.eq_iff_iff]
    (simp only [vcS])
  · simp only [kidB, if_neg hd, if_neg h]
    rw [Bool.eq_iff_iff]
    (simp only [vcS])

theorem rightK_drop {l : Int} {ks : List Tree} {i : Int} {d : Int} (h0 : 0 ≤ i) (h : i < ks.length) :
    rightK l (ks.drop i.toNat) d = ((kidB l (ks.getD i.toNat Tree.nil) && rightT (ks.getD i.toNat Tree.nil) d) && rightK l (ks.drop (i + 1).toNat) d) := by
  have e : (i + 1).toNat = i.toNat + 1 := by omega
  rw [List.drop_eq_getElem_cons (by omega), e]
  simp only [rightK, List.getD, List.getElem?_eq_getElem (show i.toNat < ks.length by omega), Option.getD_some]

theorem rngK_get : ∀ {ks : List Tree} {i : Nat}, rngK ks → i < ks.length → rng (ks.getD i Tree.nil)
  | t :: _, 0, h, _ => by simp only [rngK] at h; exact h.1
  | _ :: r, i + 1, h, hi => by simp only [rngK] at h; exact rngK_get (ks := r) (i := i) h.2 (by simpa using hi)

theorem kidB_one (t : Tree) : kidB 1 t = decide (t.kind ≠ 10) := by simp [kidB]

theorem c94 : Contract Try.prog cfg 94 spec94 := by
  refine make94 c116 c117 ?_
  rintro N ⟨k, ws, ks⟩ d _ hp hN
  simp only [pre94, mu94, mass, rng] at hp hN
  have key : ∀ b, d ≠ 0 → rightT (.mk k ws ks) d = (b && rightK k ks (d - 1)) → b = true →
      LoopWp (awp cfg (know (know94 N)) (drawOk cfg (know (know94 N))) Try.f94.ntmps lv94 (cd Try.f94 [1, 1, 0, 1, 0, 0])) (head94_0 (.mk k ws ks) d 0) (AExit.inBlock 1 (seqK cfg (know (know94 N)) (drawOk cfg (know (know94 N))) Try.f94.ntmps lv94 (cd Try.f94 [1, 1, 1]) (EndsQ cfg Try.f94.ntmps Try.f94.results.toList (res94 (.mk k ws ks, d, ())) []))) := by
    intro b hd0 hb hbt
    subst hbt
    rw [Bool.true_and] at hb
    refine loop_rule (ι := Int) (fun p => head94_0 (.mk k ws ks) d p) (fun p => 0 ≤ p ∧ p ≤ ks.length ∧ rightT (.mk k ws ks) d = rightK k (ks.drop p.toNat) (d - 1)) (fun p => ((ks.length : Int) - p).toNat) 0 rfl ⟨by omega, by omega, by simpa using hb⟩ ?_
    rintro i ⟨h1, h2, h3⟩
    refine vc94_l0 N _ _ _ _ _ ?_
    (simp only [vcS])
    (simp only [Tree.eta, Tree.kind_mk, Tree.words_mk, Tree.kids_mk])
    refine ⟨fun hi => ⟨⟨by omega, hi⟩, ?_⟩, fun hi => ?_⟩
    · have hd := rightK_drop (l := k) (d := d - 1) h1 hi
      have hm := massK_get (ks := ks) (i := i.toNat) (by omega)
      have hr := rngK_get (i := i.toNat) hp.2.1.2.2 (by omega)
      rw [hd] at h3
      have hlen := massK_len ks
      generalize ks.getD i.toNat Tree.nil = y at *
      have hpre : pre94 (y, d - 1, ()) := ⟨by dsimp only; omega, hr, by dsimp only; omega, by dsimp only; omega⟩
      have hmu : mu94 (y, d - 1, ()) < N := by simp only [mu94]; omega
      have hin : InR (d - 1) := by unfold InR; omega
      refine ⟨fun hk => ⟨hr, fun _ => hin, fun _ => hpre, fun _ => hmu, fun hc => ends_bool rfl ?_, fun hc => ⟨by unfold InR; omega, i + 1, rfl, ⟨by omega, by omega, ?_⟩, by omega⟩⟩, fun hk => ⟨fun _ => hin, fun _ => hpre, fun _ => hmu, fun hc => ends_bool rfl ?_, fun hc => ⟨by unfold InR; omega, i + 1, rfl, ⟨by omega, by omega, ?_⟩, by omega⟩⟩⟩
      · rw [h3]
        rcases hc with hc | hc <;> simp [hc]
      · rw [h3, hc.1, hc.2]; rfl
      · subst hk
        rw [h3, kidB_one]
        rcases hc with hc | hc <;> simp [hc]
      · subst hk
        rw [h3, kidB_one, hc.2]
        simp [hc.1]
    · rw [List.drop_eq_nil_of_le (by omega)] at h3
      simp only [rightK] at h3
      exact ends_bool rfl h3.symm
  refine vc94 N _ _ _ ?_
  (simp only [vcS])
  (simp only [Tree.eta, Tree.kind_mk, Tree.words_mk, Tree.kids_mk])
  have hk0 : ∀ h0 : k = 0, rightT (.mk k ws ks) d = decide (ws.length = 0 ∧ ks.length = 0) := fun h0 => by simp only [rightT, if_pos h0]
  have hk10 : ∀ (_ : ¬k = 0) (h10 : k = 10), rightT (.mk k ws ks) d = decide (ws.length = 1 ∧ ks.length = 0) := fun h0 h10 => by simp only [rightT, if_neg h0, if_pos h10]
  refine ⟨fun h0 => ends_bool rfl ?_, fun h0 => ⟨fun h10 => ends_bool rfl ?_, fun h10 => ⟨fun hd => ends_bool rfl ?_, fun hd => ⟨fun h1 => ⟨fun hc => ends_bool rfl ?_, fun hc => key true hd ?_ rfl⟩, fun h1 => ⟨trivial, fun hc => ends_bool rfl ?_, fun hc => key true hd ?_ rfl⟩⟩⟩⟩⟩
  · rw [hk0 h0, Bool.eq_iff_iff]; (simp only [vcS]); omega
  · rw [hk10 h0 h10, Bool.eq_iff_iff]; (simp only [vcS]); omega
  · simp only [rightT, if_neg h0, if_neg h10, if_pos hd]
  · simp only [rightT, if_neg h0, if_neg h10, if_neg hd, if_pos h1]
    rw [decide_eq_false (by omega)]; rfl
  · simp only [rightT, if_neg h0, if_neg h10, if_neg hd, if_pos h1]
    rw [decide_eq_true (by omega), h1]
  · simp only [rightT, if_neg h0, if_neg h10, if_neg hd, if_neg h1]
    rw [decide_eq_false (by omega)]; rfl
  · simp only [rightT, if_neg h0, if_neg h10, if_neg hd, if_neg h1]
    rw [decide_eq_true (by omega)]

theorem c71 : Contract Try.prog cfg 71 spec71 := by
  refine make71 c94 ?_
  intro t _ hp
  refine vc71 _ _ ?_
  (simp only [Tree.eta, Tree.kind_mk, Tree.words_mk, Tree.kids_mk])
  exact ⟨⟨hp.1, hp.2, by dsimp only; omega, by dsimp only; omega⟩, ends_bool rfl rfl⟩

end Go.AM.Ythokdjgpdonhgaa

namespace Go.AM.Ythokdjgpdonhgaa
open Go.AM Go.Proofs

def args118 : ArgL (Int × Int × Unit) := (.cons (aInt .i64) (.cons (aInt .i64) .nil))
def pre118 (a : Int × Int × Unit) : Prop := True
noncomputable def res118 (a : Int × Int × Unit) : V U := .c (.int .i64 (roomW a.1 a.2.1))
noncomputable def spec118 : Fs U := fs args118 (fun a => [pre118 a]) res118

def args101 : ArgL (Int × List Int × Unit) := (.cons (aInt .i64) (.cons (aSl .u64) .nil))
def pre101 (a : Int × List Int × Unit) : Prop := okW a.2.1 ∧ a.2.1.length ≤ 1099511627776
noncomputable def res101 (a : Int × List Int × Unit) : V U := .tup [(false, [.slice (U := U) .u64 (putR a.1 a.2.1) .unk]), (false, [.bool (fitsA a.1 a.2.1)])]
noncomputable def spec101 : Fs U := fs args101 (fun a => [pre101 a]) res101

noncomputable def know118 : List (FuncId × Fs U) := [(110, spec110)]
def lv118 : Lives U := fun i => match i with
  | 0 => ([(0, []), (1, [])], [])
  | 1 => ([(1, []), (5, []), (6, [])], [])
  | 2 => ([(1, []), (5, []), (21, [])], [])
  | 3 => ([(4, [])], [])
  | 4 => ([(4, [])], [])
  | _ => ([], [])
noncomputable abbrev A118 (p : List Nat) := awp cfg (know know118) (drawOk cfg (know know118)) Try.f118.ntmps lv118 (cd Try.f118 p)
theorem vc118 (c : Int) (n : Int) (Q : AExit → LSt U → Prop) (h : ((pre110 (c, ())) ∧ ((Tr ((!(!(decide (0 ≤ wd c)))) = true)) ∧ (((!(decide (0 ≤ wd c))) = false → (!(!(decide (0 ≤ wd c)))) = true)) ∧ (Tr ((!(bif (!(decide (0 ≤ wd c))) then true else (decide ((n : Int) < 0)))) = true)) ∧ (((bif (!(decide (0 ≤ wd c))) then true else (decide ((n : Int) < 0))) = false → (!(bif (!(decide (0 ≤ wd c))) then true else (decide ((n : Int) < 0)))) = true)) ∧ (((bif (bif (!(decide (0 ≤ wd c))) then true else (decide ((n : Int) < 0))) then true else (decide ((1099511627776 : Int) < n))) = true → (Q .ret (⟨[(4, .c (.int .i64 0))], [], []⟩ : LSt U))) ∧ ((bif (bif (!(decide (0 ≤ wd c))) then true else (decide ((n : Int) < 0))) then true else (decide ((1099511627776 : Int) < n))) = false → (InR ((n : Int) * (if wd c < 0 then 0 else wd c))) ∧ (InR ((((n : Int) * (if wd c < 0 then 0 else wd c)) : Int) + 63)) ∧ ((64 : Int) ≠ 0) ∧ (Q .ret (⟨[(4, .c (.int .i64 (IntKind.wrap .i64 (Int.tdiv ((((n : Int) * (if wd c < 0 then 0 else wd c)) : Int) + 63) 64))))], [], []⟩ : LSt U))))))) :
    A118 [] (⟨[(0, .c (.int .i64 c)), (1, .c (.int .i64 n))], [], []⟩ : LSt U) Q :=
  Eq.mpr (by kernel_rfl) h
def Body118 (c : Int) (n : Int)  : Prop := awp cfg (know (know118)) (drawOk cfg (know (know118))) Try.f118.ntmps lv118 (cd Try.f118 []) (entry (args118.can (c, n, ())) []) (EndsQ cfg Try.f118.ntmps Try.f118.results.toList (res118 (c, n, ())) [])
theorem make118 (c110 : Contract Try.prog cfg 110 spec110) (hb : ∀ (c : Int) (n : Int) (_ : Unit), pre118 (c, n, ()) → Body118 c n) : Contract Try.prog cfg 118 spec118 :=
  contract_flat (l := [(110, spec110)]) cfgOk rfl (⟨c110, trivial⟩) lv118 Try.func118 rfl rfl 2 (fun _ => rfl) (by decide) (fun ⟨c, n, _⟩ => hb c n ())

noncomputable def know101 : List (FuncId × Fs U) := [(110, spec110), (118, spec118), (121, spec121)]
def lv101 : Lives U := fun i => match i with
  | 0 => ([(0, []), (1, [])], [])
  | 1 => ([(0, []), (1, []), (6, []), (7, [])], [])
  | 2 => ([(0, []), (1, []), (6, []), (17, [])], [])
  | 3 => ([(4, []), (5, [])], [])
  | 4 => ([(0, []), (1, []), (6, []), (8, [.wr .u64])], [])
  | 5 => ([(0, []), (6, []), (8, [.wr .u64]), (23, []), (24, []), (25, [])], [])
  | 6 => ([(0, []), (6, []), (8, [.wr .u64]), (23, []), (24, []), (25, []), (26, [])], [])
  | 7 => ([(0, []), (6, []), (8, [.wr .u64]), (9, []), (10, []), (23, []), (24, []), (25, [])], [])
  | 8 => ([(0, []), (6, []), (8, [.wr .u64]), (9, []), (10, []), (23, []), (24, []), (25, []), (33, [])], [])
  | 9 => ([(4, []), (5, [])], [])
  | 10 => ([(0, []), (6, []), (8, [.wr .u64]), (9, []), (10, []), (23, []), (24, []), (25, []), (35, [])], [])
  | 11 => ([(0, []), (6, []), (8, [.wr .u64]), (23, []), (24, []), (25, [])], [])
  | 12 => ([(0, []), (6, []), (8, [.wr .u64]), (23, []), (24, []), (25, [])], [])
  | 13 => ([(4, []), (5, [])], [])
  | _ => ([], [])
noncomputable def head101_0 (c : Int) (ns : List Int) (x25 : Int) (re_8_0 : List Int) : LSt U := (⟨[(0, .c (.int .i64 c)), (6, .c (.int .i64 (if wd c < 0 then 0 else wd c))), (8, .c (.mref (.e 8 0))), (23, .c (.slice (U := U) .u64 ns .unk)), (24, .c (.int .i64 (ns.length : Int))), (25, .c (.int .i64 x25))], [], [(.e 8 0, LC.mk (U := U) .u64 re_8_0 0)]⟩ : LSt U)
noncomputable abbrev A101 (p : List Nat) := awp cfg (knowM know101) (drawOk cfg (knowM know101)) Try.f101.ntmps lv101 (cd Try.f101 p)
noncomputable abbrev S101 (p : List Nat) := seqK cfg (knowM know101) (drawOk cfg (knowM know101)) Try.f101.ntmps lv101 (cd Try.f101 p)
theorem vc101 (c : Int) (ns : List Int) (Q : AExit → LSt U → Prop) (h : ((pre110 (c, ())) ∧ ((((!(decide (0 ≤ wd c))) = true → (Q .ret (⟨[(4, .c (.nils)), (5, .c (.bool false))], [], []⟩ : LSt U))) ∧ ((!(decide (0 ≤ wd c))) = false → (pre118 (c, (ns.length : Int), ())) ∧ ((0 : Int) ≤ roomW c (ns.length : Int) ∧ ((roomW c (ns.length : Int)) : Int) * ((8 : Nat) : Int) ≤ 140737488355328 ∧ (roomW c (ns.length : Int) : Int) ≤ 9223372036854775807) ∧ ((roomW c (ns.length : Int) : Int) = (roomW c (ns.length : Int))) ∧ ((LoopWp (A101 [1, 1, 1, 1, 0, 1, 0, 0]) (head101_0 c ns 0 (List.replicate (Int.toNat (roomW c (ns.length : Int))) (0 : Int))) (AExit.inBlock 0 (S101 [1, 1, 1, 1, 1] Q))))))))) :
    A101 [] (⟨[(0, .c (.int .i64 c)), (1, .c (.slice (U := U) .u64 ns .unk))], [], []⟩ : LSt U) Q :=
  Eq.mpr (by kernel_rfl) h
theorem vc101_l0 (c : Int) (ns : List Int) (x25 : Int) (re_8_0 : List Int) (N0 : LSt U → Prop) (Q : AExit → LSt U → Prop) (h : ∀ y_1, y_1 = (List.getD ns (Int.toNat x25) (0 : Int)) → ∀ y_2, y_2 = (Int.tdiv ((x25 : Int) * (if wd c < 0 then 0 else wd c)) 64) → (((decide ((x25 : Int) < (ns.length : Int))) = true → ((0 : Int) ≤ x25 ∧ x25 < (ns.length : Int)) ∧ ((pre121 (c, y_1, ())) ∧ (((!(fits c y_1)) = true → (Q .ret (⟨[(4, .c (.nils)), (5, .c (.bool false))], [], []⟩ : LSt U))) ∧ ((!(fits c y_1)) = false → (((decide ((0 : Int) < (if wd c < 0 then 0 else wd c))) = true → (InR ((x25 : Int) * (if wd c < 0 then 0 else wd c))) ∧ ((64 : Int) ≠ 0) ∧ ((0 : Int) ≤ (IntKind.wrap .i64 y_2) ∧ (IntKind.wrap .i64 y_2) < (re_8_0.length : Int)) ∧ (InR ((x25 : Int) * (if wd c < 0 then 0 else wd c))) ∧ ((64 : Int) ≠ 0) ∧ ((0 : Int) ≤ (Int.tmod ((x25 : Int) * (if wd c < 0 then 0 else wd c)) 64)) ∧ ((0 : Int) ≤ (IntKind.wrap .i64 y_2) ∧ (IntKind.wrap .i64 y_2) < (re_8_0.length : Int)) ∧ ((0 : Nat) ≤ (Int.toNat (IntKind.wrap .i64 y_2))) ∧ ((InR ((x25 : Int) + 1)) ∧ (N0 (head101_0 c ns ((x25 : Int) + 1) (List.set re_8_0 (Int.toNat (IntKind.wrap .i64 y_2)) (IntKind.wrap .u64 (BitVec.ofInt (IntKind.bits .u64) (List.getD re_8_0 (Int.toNat (IntKind.wrap .i64 y_2)) (0 : Int)) ||| BitVec.ofInt (IntKind.bits .u64) (IntKind.wrap .u64 ((y_1 : Int) * 2 ^ (min (Int.toNat (Int.tmod ((x25 : Int) * (if wd c < 0 then 0 else wd c)) 64)) (IntKind.bits .u64))))).toNat)))))) ∧ ((decide ((0 : Int) < (if wd c < 0 then 0 else wd c))) = false → (InR ((x25 : Int) + 1)) ∧ (N0 (head101_0 c ns ((x25 : Int) + 1) re_8_0)))))))) ∧ ((decide ((x25 : Int) < (ns.length : Int))) = false → (Q .ret (⟨[(4, .c (.slice (U := U) .u64 re_8_0 (.own (.e 4 0)))), (5, .c (.bool true))], [], []⟩ : LSt U))))) :
    A101 [1, 1, 1, 1, 0, 1, 0, 0] (head101_0 c ns x25 re_8_0) (AExit.then N0 (AExit.inBlock 0 (S101 [1, 1, 1, 1, 1] Q))) :=
  Eq.mpr (by kernel_rfl) (h _ rfl _ rfl)
def Body101 (c : Int) (ns : List Int)  : Prop := awp cfg (knowM (know101)) (drawOk cfg (knowM (know101))) Try.f101.ntmps lv101 (cd Try.f101 []) (entry (args101.can (c, ns, ())) []) (EndsQ cfg Try.f101.ntmps Try.f101.results.toList (res101 (c, ns, ())) [])
theorem make101 (c110 : Contract Try.prog cfg 110 spec110) (c118 : Contract Try.prog cfg 118 spec118) (c121 : Contract Try.prog cfg 121 spec121) (hb : ∀ (c : Int) (ns : List Int) (_ : Unit), pre101 (c, ns, ()) → Body101 c ns) : Contract Try.prog cfg 101 spec101 :=
  contract_flatM (l := [(110, spec110), (118, spec118), (121, spec121)]) cfgOk rfl (⟨c110, c118, c121, trivial⟩) lv101 Try.func101 rfl rfl 2 (fun _ => rfl) (by decide) (fun ⟨c, ns, _⟩ => hb c ns ())

end Go.AM.Ythokdjgpdonhgaa

namespace Go.AM.Ythokdjgpdonhgaa
open Go.AM Go.Proofs

theorem room_cases {c n : Int} (h0 : 0 ≤ n) (h1 : n ≤ 1099511627776) : 0 ≤ roomW c n ∧ roomW c n ≤ 1099511627776 := by
  unfold roomW
  split
  · omega
  · rcases wd_div c with e | e | e | e | e | e
    · omega
    all_goals (rw [e]; omega)

theorem c118 : Contract Try.prog cfg 118 spec118 := by
  refine make118 c110 ?_
  intro c n _ _
  refine vc118 _ _ _ ?_
  (simp only [vcT, vcS])
  refine ⟨trivial, fun h => ends_int rfl ?_, fun h => ?_⟩
  · show (0 : Int) = roomW c n
    unfold roomW
    rw [if_pos (by omega)]
  · rw [if_neg (show ¬ wd c < 0 by omega)]
    have hb : 0 ≤ n * wd c ∧ n * wd c ≤ 70368744177664 := by
      rcases wd_cases c with e | e | e | e | e | e | e
      · omega
      all_goals (rw [e]; omega)
    have hq : Int.tdiv (n * wd c + 63) 64 = (n * wd c + 63) / 64 := Int.tdiv_eq_ediv_of_nonneg (by omega)
    rw [hq, wrap_i64 (n := (n * wd c + 63) / 64) (by omega) (by omega)]
    refine ⟨by ((unfold InR; omega)), by ((unfold InR; omega)), by decide, ends_int rfl ?_⟩
    show _ = roomW c n
    unfold roomW
    by_cases h0 : wd c < 1
    · rw [if_pos (.inl h0), show wd c = 0 by omega]; simp
    · rw [if_neg (by omega)]

theorem putR_no {c : Int} {ns : List Int} (h : fitsA c ns = false) : putR c ns = [] := by unfold putR; rw [h]; rfl
theorem putR_yes {c : Int} {ns : List Int} (h : fitsA c ns = true) : putR c ns = putW c ns := by unfold putR; rw [h]; rfl

theorem fitsA_neg {c : Int} {ns : List Int} (h : wd c < 0) : fitsA c ns = false := by
  unfold fitsA
  rw [decide_eq_false (by omega)]; rfl
theorem fitsA_bad {c : Int} {ns : List Int} {i : Nat} (hi : i < ns.length) (h : fits c (ns.getD i 0) = false) : fitsA c ns = false := by
  cases e : fitsA c ns with
  | false => rfl
  | true => rw [fitsA_get e hi] at h; cases h
theorem fitsA_all {c : Int} {ns : List Int} (h0 : 0 ≤ wd c) (h : ∀ i, i < ns.length → fits c (ns.getD i 0) = true) : fitsA c ns = true := by
  unfold fitsA
  rw [Bool.and_eq_true, List.all_eq_true]
  refine ⟨decide_eq_true h0, fun x hx => ?_⟩
  obtain ⟨i, hi, rfl⟩ := List.getElem_of_mem hx
  have := h i hi
  rwa [List.getD_eq_getElem?_getD, List.getElem?_eq_getElem hi] at this

theorem putN_okW {c : Int} {ns : List Int} (hn : okW ns) (hl : (ns.length : Int) ≤ 1099511627776) {i : Int} (h0 : 0 ≤ i) (h1 : i < ns.length) (hf : ∀ j : Nat, (j : Int) < i → fits c (ns.getD j 0) = true) (hw : 1 ≤ wd c) : PutI c (putN c ns i) i := by
  have := putN_inv hw hn hl i.toNat (by omega) fun j hj => hf j (by omega)
  rwa [show ((i.toNat : Nat) : Int) = i by omega] at this

theorem or_sum {x y : Int} {a : Nat} (hx : 0 ≤ x) (hx' : x < 2 ^ a) (hy : 0 ≤ y) (hs : x + y * 2 ^ a < 18446744073709551616) :
    IntKind.wrap .u64 (BitVec.ofInt (IntKind.bits .u64) x ||| BitVec.ofInt (IntKind.bits .u64) (y * 2 ^ a)).toNat = x + y * 2 ^ a := by
  have hp := pow2_pos a
  have h1 : 0 ≤ y * 2 ^ a := Int.mul_nonneg hy (Int.le_of_lt hp)
  have e : ∀ z : Int, 0 ≤ z → z < 18446744073709551616 → (BitVec.ofInt (IntKind.bits .u64) z).toNat = z.toNat := by
    intro z z0 z1
    simp [IntKind.bits]
    omega
  rw [BitVec.toNat_or, e x hx (by omega), e _ h1 (by omega)]
  obtain ⟨m, rfl⟩ := Int.eq_ofNat_of_zero_le hx
  obtain ⟨n, rfl⟩ := Int.eq_ofNat_of_zero_le hy
  have hpn : (2 : Int) ^ a = ((2 ^ a : Nat) : Int) := by simp
  rw [hpn] at hx' hs ⊢
  have hm : m < 2 ^ a := by omega
  have hor : m ||| n * 2 ^ a = m + n * 2 ^ a := by
    have h := Nat.two_pow_add_eq_or_of_lt hm n
    rw [Nat.or_comm, Nat.mul_comm n, ← h, Nat.add_comm]
  rw [← Int.natCast_mul, Int.toNat_natCast, Int.toNat_natCast, hor, wrap_u64 (by omega) (by omega)]
  push_cast
  rfl

theorem c101 : Contract Try.prog cfg 101 spec101 := by
  refine make101 c110 c118 c121 ?_
  intro c ns _ hp
  obtain ⟨hn, hl⟩ := hp
  dsimp only at hn hl
  have no : fitsA c ns = false → EndsQ cfg Try.f101.ntmps Try.f101.results.toList (res101 (c, ns, ())) [] .ret (⟨[(4, .c (.nils)), (5, .c (.bool false))], [], []⟩ : LSt U) := by
    intro h
    refine ends_eq (r' := .tup [(false, [.slice (U := U) .u64 [] .unk]), (false, [.bool false])]) ?_ (by (repeat' (first | exact trivial | exact rfl | refine And.intro ?_ ?_)))
    simp only [res101]
    rw [h, putR_no h]
  refine vc101 _ _ _ ?_
  (simp only [vcT, vcS])
  have hrm := room_cases (c := c) (n := ns.length) (by omega) (by omega)
  refine ⟨trivial, fun h => no (fitsA_neg (by omega)), fun hc => ⟨trivial, ⟨hrm.1, by omega, by omega⟩, ?_⟩⟩
  refine loop_rule (ι := Int) (fun p => head101_0 c ns p (putN c ns p)) (fun p => 0 ≤ p ∧ p ≤ ns.length ∧ ∀ j : Nat, (j : Int) < p → fits c (ns.getD j 0) = true) (fun p => ((ns.length : Int) - p).toNat) 0 (by simp only [putN_zero]) ⟨by omega, by omega, fun j hj => by omega⟩ ?_
  rintro i ⟨h1, h2, h3⟩
  refine vc101_l0 _ _ _ _ _ _ ?_
  rintro y1 hy1 y2 hy2
  rw [if_neg (show ¬ wd c < 0 by omega)] at hy2 ⊢
  (simp only [vcT, vcS])
  refine ⟨fun hi => ⟨⟨h1, hi⟩, by rw [hy1]; exact getD_word hn _, fun hb => no (fitsA_bad (i := i.toNat) (by omega) (by rw [← hy1]; exact hb)), fun hb => ?_⟩, fun hi => ?_⟩
  · have hx := getD_word hn i.toNat
    rw [← hy1] at hx
    have hf := fits_lt hb
    have hin : 0 ≤ i * wd c ∧ i * wd c ≤ 70368744177664 := by
      rcases wd_cases c with e | e | e | e | e | e | e
      · omega
      all_goals (rw [e]; omega)
    have hm : Int.tmod (i * wd c) 64 = i * wd c % 64 := Int.tmod_eq_emod_of_nonneg hin.1
    rw [Int.tdiv_eq_ediv_of_nonneg hin.1] at hy2
    have hstep : putN c ns (i + 1) = putS c (putN c ns i) i y1 := by rw [hy1]; exact putN_succ c ns h1 hi
    have hfin : 0 ≤ i + 1 ∧ i + 1 ≤ ns.length ∧ ∀ j : Nat, (j : Int) < i + 1 → fits c (ns.getD j 0) = true := by
      refine ⟨by omega, by omega, fun j hj => ?_⟩
      by_cases hji : (j : Int) < i
      · exact h3 j hji
      · rw [show j = i.toNat by omega, ← hy1]; exact hb
    refine ⟨fun hw => ?_, fun hw => ?_⟩
    · obtain ⟨a0, a1, a2, a3⟩ := wd_at (c := c) (i := i) (by omega) (by omega) (by omega)
      obtain ⟨r1, r2⟩ := room_at (c := c) (n := ns.length) (i := i) (by omega) h1 hi (by omega)
      have hI := putN_okW hn (by omega) h1 hi h3 (by omega)
      have hu := used_at (c := c) (i := i) (by omega) h1 (by omega)
      have hq := hI (i * wd c / 64).toNat
      rw [hu.1] at hq
      have hs := put_num hq.1 hq.2 hx.1 hf.2
      have hp := pow_le_pow (show (i * wd c % 64).toNat + (wd c).toNat ≤ 64 by omega)
      have h64 : (2 : Int) ^ 64 = 18446744073709551616 := rfl
      have hwy : IntKind.wrap .i64 y2 = i * wd c / 64 := by rw [hy2, wrap_i64 (by omega) (by omega)]
      have hmin : min (i * wd c % 64).toNat (IntKind.bits .u64) = (i * wd c % 64).toNat := by simp [IntKind.bits]; omega
      rw [hm, hwy, hmin, wrap_u64 (n := y1 * 2 ^ (i * wd c % 64).toNat) hs.2.2 (by omega), or_sum hq.1 hq.2 hx.1 (by omega)]
      refine ⟨by ((unfold InR; omega)), by decide, ⟨by omega, by rw [putN_len]; omega⟩, by ((unfold InR; omega)), by decide, by omega, ⟨by omega, by rw [putN_len]; omega⟩, by omega, by ((unfold InR; omega)), i + 1, ?_, hfin, by omega⟩
      rw [hstep]
      unfold putS
      rw [if_neg (by omega)]
    · refine ⟨by ((unfold InR; omega)), i + 1, ?_, hfin, by omega⟩
      rw [hstep]
      unfold putS
      rw [if_pos (by omega)]
  · have hall : fitsA c ns = true := fitsA_all (by omega) fun j hj => h3 j (by omega)
    have e : i = ns.length := by omega
    subst e
    rw [putN_all]
    refine ends_eq (r' := .tup [(false, [.slice (U := U) .u64 (putW c ns) .unk]), (false, [.bool true])]) ?_ (by (repeat' (first | exact trivial | exact rfl | refine And.intro ?_ ?_)))
    simp only [res101]
    rw [hall, putR_yes hall]
end Go.AM.Ythokdjgpdonhgaa
