import Derived.Test.YtpjenobkibfpcaaKB20b
import Derived.Test.YtpjenobkibfpcaaCmZ
import Derived.Test.YtpjenobkibfpcaaKRB07
import Derived.Test.YtpjenobkibfpcaaKD20
set_option linter.unusedSimpArgs false
set_option linter.unusedVariables false
namespace Go.AM.Ytpjenobkibfpcaa
open Go.AM Go.Proofs
theorem rightE_at (e : Edit) (d : Int) : rightE e d =
    if d = 0 ∨ e.kind < 0 ∨ 3 < e.kind then false
    else if (e.kind ≠ 1 ∧ ¬(noneT e.old = true ∧ noneT e.new = true)) ∨ (e.kind ≠ 2 ∧ ¬(e.words.length = 0 ∧ e.kids.length = 0)) ∨ (e.kind ≠ 3 ∧ (e.list ≠ 0 ∨ e.ops.length ≠ 0)) then false
    else if e.kind = 1 then rightT e.old (dT d) && rightT e.new (dT d) && decide (e.old.kind ≠ 10 ∧ e.new.kind ≠ 10)
    else wordsOk (-1) e.words && rightKs (-1) e.kids (d - 1) && decide (¬(e.kind = 3 ∧ (e.list < 2 ∨ 9 < e.list))) && rightOs e.list e.ops (d - 1) && decide (lenA e.ops 0 < 1048576 ∧ lenB e.ops 0 < 1048576) := by
  obtain ⟨k, o, nw, w, ks, l, os⟩ := e; rfl
theorem rightKid_at (last : Int) (k : Kid) (d : Int) : rightKid last k d = (decide (last < k.at_ ∧ k.at_ ≤ 65534 ∧ k.e.kind ≠ 0) && rightE k.e d) := by cases k; rfl
theorem rightOp_at (list : Int) (o : Op) (d : Int) : rightOp list o d =
    if o.kind = 0 then decide (1 ≤ o.n ∧ o.n ≤ 1048576 ∧ o.l.length = 0) && sameE o.e
    else if o.n ≠ 0 ∨ o.kind < 0 ∨ 3 < o.kind then false
    else if o.kind < 3 then treesG (dT d) list o.l && decide (0 < o.l.length) && sameE o.e
    else decide (o.l.length = 0 ∧ o.e.kind ≠ 0 ∧ 7 < list) && rightE o.e d && decide (list = 8 ∨ o.e.kind = 2 ∨ o.e.kind = 1 ∧ o.e.old.kind = 1 ∧ o.e.new.kind = 1) := by
  cases o; rfl
theorem rightOp_n {list : Int} {o : Op} {d : Int} (h : rightOp list o d = true) : 0 ≤ o.n ∧ o.n ≤ 1048576 := by
  rw [rightOp_at] at h
  split at h
  · simp only [Bool.and_eq_true, decide_eq_true_eq] at h; omega
  · split at h
    · cases h
    · rename_i h1; omega
theorem rightOs_mem {list d : Int} : ∀ {os : List Op} {o : Op}, rightOs list os d = true → o ∈ os → rightOp list o d = true
  | x :: r, o, h, hm => by
    simp only [rightOs, Bool.and_eq_true] at h
    rcases List.mem_cons.1 hm with rfl | hm
    · exact h.1
    · exact rightOs_mem h.2 hm
theorem rightKs_mem {d : Int} : ∀ {ks : List Kid} {last : Int} {k : Kid}, rightKs last ks d = true → k ∈ ks → rightE k.e d = true ∧ k.e.kind ≠ 0
  | x :: r, last, k, h, hm => by
    simp only [rightKs, Bool.and_eq_true] at h
    rcases List.mem_cons.1 hm with rfl | hm
    · have := h.1; rw [rightKid_at] at this; simp only [Bool.and_eq_true, decide_eq_true_eq] at this; exact ⟨this.2, this.1.2.2⟩
    · exact rightKs_mem h.2 hm
theorem rngE_at {e : Edit} (h : rngE e) : isI e.kind ∧ rng e.old ∧ rng e.new ∧ (∀ x ∈ e.words, rngW x) ∧ isI e.list ∧ rngKs e.kids ∧ rngOs e.ops := by
  obtain ⟨k, o, n, w, ks, l, os⟩ := e; exact h
theorem b23 : HB23 := by
  intro N e d _ hp hN
  simp only [pre23, mu23] at hp hN
  obtain ⟨⟨hm, hr⟩, hd0, hd1⟩ := hp
  obtain ⟨ik, ro, rn, rw', il, rk, ros⟩ := rngE_at hr
  have hme := len_massE e
  have hkl := massKs_len e.kids
  have hol := massOs_len e.ops
  have hat := rightE_at e d
  rw [dT_nn hd0] at hat
  refine vc23 N e d _ ?_; (try simp only [vcT, forall_eq])
  (simp only [vcS]); (try simp only [vcT]); (try simp only [vcU])
  try (simp only [Tree.eta, Edit.eta, Tree.kind_mk, Tree.words_mk, Tree.kids_mk])
  refine ⟨fun hc => ends_bool rfl (by rw [hat, if_pos (by omega)]), fun hc => ?_⟩
  rw [if_neg (by omega)] at hat
  refine ⟨fun _ => by simp only [pre62]; omega, fun _ => by simp only [pre62]; omega, fun _ => by unfold InR; omega, fun hf => ends_bool rfl ?_, fun hf => ⟨fun h1 => ⟨⟨by dsimp only; omega, ro, by dsimp only; omega, by dsimp only; omega⟩, fun _ => ⟨by dsimp only; omega, rn, by dsimp only; omega, by dsimp only; omega⟩, ends_bool rfl ?_⟩, fun h1 => ?_⟩⟩
  · rw [hat, if_pos]
    rcases hf with (hf | hf) | hf
    · left
      refine ⟨hf.1, fun h => ?_⟩
      rcases hf.2 with h2 | h2
      · rw [h.1] at h2; cases h2
      · rw [h.2] at h2; cases h2
    · right; left; omega
    · right; right; omega
  · rw [hat, if_neg, if_pos h1, Bool.eq_iff_iff]
    · (simp only [vcS])
      constructor
      · rintro ⟨⟨⟨h2, h3⟩, h4⟩, h5⟩; exact ⟨⟨h2, h3⟩, h4, h5⟩
      · rintro ⟨⟨h2, h3⟩, h4, h5⟩; exact ⟨⟨⟨h2, h3⟩, h4⟩, h5⟩
    · intro h
      rcases h with h | h | h
      · exact h.1 h1
      · omega
      · omega
  · rw [if_neg, if_neg h1] at hat
    · refine loop_rule (ι := Int × Int) (fun p => head23_0 e d p.1 p.2) (fun p => 0 ≤ p.2 ∧ p.2 ≤ e.words.length ∧ wordsOk p.1 (e.words.drop p.2.toNat) = wordsOk (-1) e.words) (fun p => ((e.words.length : Int) - p.2).toNat) (-1, 0) rfl ⟨by dsimp only; omega, by dsimp only; omega, by simp⟩ ?_
      rintro ⟨last, i⟩ ⟨h2, h3, h4⟩
      dsimp only at *
      refine vc23_l0 N e d last i _ _ ?_; (try simp only [vcT, forall_eq])
      (simp only [vcS]); (try simp only [vcT]); (try simp only [vcU])
      try (simp only [Tree.eta, Edit.eta, Tree.kind_mk, Tree.words_mk, Tree.kids_mk])
      refine ⟨fun hi => ?_, fun hi => ?_⟩
      · have hmem := mem_getD (l := e.words) (i := i.toNat) (by omega) (WEdit.mk 0 0 0 0)
        have hrw := rw' _ hmem
        rw [dropI h2 hi (WEdit.mk 0 0 0 0)] at h4
        simp only [wordsOk] at h4
        generalize e.words.getD i.toNat (WEdit.mk 0 0 0 0) = w at *
        obtain ⟨_, hmk, hwo, hwn⟩ := hrw
        refine ⟨⟨h2, hi⟩, fun _ => ⟨hwo, hmk⟩, fun _ => ⟨hwn, hmk⟩, fun hq => ends_bool rfl ?_, fun hq => ⟨by unfold InR; omega, (_, i + 1), rfl, ⟨by dsimp only; omega, by dsimp only; omega, ?_⟩, by dsimp only; omega⟩⟩
        · rw [hat, ← h4]
          rcases hq with (hq | hq) | hq
          · rw [decide_eq_false (by omega)]; rfl
          · rw [hq]; simp
          · rw [hq]; simp
        · dsimp only
          rw [← h4, decide_eq_true (by omega), hq.1.2, hq.2]; rfl
      · have hw : wordsOk (-1) e.words = true := by
          rw [← h4, List.drop_of_length_le (by omega)]; rfl
        rw [hw, Bool.true_and] at hat
        refine loop_rule (ι := Int × Int) (fun p => head23_1 e d p.1 p.2) (fun p => 0 ≤ p.2 ∧ p.2 ≤ e.kids.length ∧ rightKs p.1 (e.kids.drop p.2.toNat) (d - 1) = rightKs (-1) e.kids (d - 1)) (fun p => ((e.kids.length : Int) - p.2).toNat) (-1, 0) rfl ⟨by dsimp only; omega, by dsimp only; omega, by simp⟩ ?_
        rintro ⟨last, i⟩ ⟨h2, h3, h4⟩
        dsimp only at *
        refine vc23_l1 N e d last i _ _ ?_; (try simp only [vcT, forall_eq])
        (simp only [vcS]); (try simp only [vcT]); (try simp only [vcU])
        try (simp only [Tree.eta, Edit.eta, Tree.kind_mk, Tree.words_mk, Tree.kids_mk])
        refine ⟨fun hi => ?_, fun hi => ?_⟩
        · have hmem := mem_getD (l := e.kids) (i := i.toNat) (by omega) (KidOf.mk 0 Edit.nil)
          have hrw := rngKs_mem rk hmem
          have hmm := massKs_mem hmem
          rw [dropI h2 hi (KidOf.mk 0 Edit.nil)] at h4
          simp only [rightKs, rightKid_at] at h4
          generalize e.kids.getD i.toNat (KidOf.mk 0 Edit.nil) = w at *
          refine ⟨⟨h2, hi⟩, fun _ => by unfold InR; omega, fun _ => ⟨⟨by dsimp only; omega, hrw.2⟩, by dsimp only; omega, by dsimp only; omega⟩, fun _ => by simp only [mu23]; omega, fun hq => ends_bool rfl ?_, fun hq => ⟨by unfold InR; omega, (_, i + 1), rfl, ⟨by dsimp only; omega, by dsimp only; omega, ?_⟩, by dsimp only; omega⟩⟩
          · rw [hat, ← h4]
            rcases hq with hq | hq
            · rw [decide_eq_false (by omega)]; rfl
            · rw [hq]; simp
          · dsimp only
            rw [← h4, decide_eq_true (by omega), hq.2]; rfl
        · have hw : rightKs (-1) e.kids (d - 1) = true := by
            rw [← h4, List.drop_of_length_le (by omega)]; rfl
          rw [hw, Bool.true_and] at hat
          refine ⟨fun hq => ends_bool rfl (by rw [hat, decide_eq_false (by omega)]; rfl), fun hq => ?_⟩
          rw [decide_eq_true (by omega), Bool.true_and] at hat
          refine loop_rule (ι := Int) (fun p => head23_2 e d p) (fun p => 0 ≤ p ∧ p ≤ e.ops.length ∧ rightOs e.list (e.ops.drop p.toNat) (d - 1) = rightOs e.list e.ops (d - 1)) (fun p => ((e.ops.length : Int) - p).toNat) 0 rfl ⟨by omega, by omega, by simp⟩ ?_
          rintro j ⟨h5, h6, h7⟩
          refine vc23_l2 N e d j _ _ ?_; (try simp only [vcT, forall_eq])
          (simp only [vcS]); (try simp only [vcT]); (try simp only [vcU])
          try (simp only [Tree.eta, Edit.eta, Tree.kind_mk, Tree.words_mk, Tree.kids_mk])
          refine ⟨fun hj => ?_, fun hj => ?_⟩
          · have hmem := mem_getD (l := e.ops) (i := j.toNat) (by omega) Op.nil
            have hro := rngOs_mem ros hmem
            have hmm := massOs_mem hmem
            rw [dropI h5 hj Op.nil] at h7
            simp only [rightOs] at h7
            generalize e.ops.getD j.toNat Op.nil = o at *
            refine ⟨⟨h5, hj⟩, by unfold InR; omega, ⟨⟨by show massOp o ≤ 20000000000; omega, hro, il⟩, by dsimp only; omega, by dsimp only; omega⟩, ?_, fun hq => ends_bool rfl ?_, fun hq => ⟨by unfold InR; omega, j + 1, rfl, ⟨by omega, by omega, ?_⟩, by omega⟩⟩
            · show 2 * massOp o + 1 < N
              omega
            · have hq' : rightOp e.list o (d - 1) = false := hq
              rw [hat, ← h7, hq']; rfl
            · have hq' : rightOp e.list o (d - 1) = true := hq
              rw [← h7, hq']; rfl
          · have hw : rightOs e.list e.ops (d - 1) = true := by
              rw [← h7, List.drop_of_length_le (by omega)]; rfl
            rw [hw, Bool.true_and] at hat
            refine ⟨⟨hm, fun o ho => rightOp_n (rightOs_mem hw ho)⟩, ends_bool rfl ?_⟩
            rw [hat, Bool.eq_iff_iff]
            (simp only [vcS])
    · intro h
      rcases h with h | h | h
      · rcases hf.1.1 with h2 | h2
        · exact h1 h2
        · exact h.2 h2
      · omega
      · omega
theorem drop_take_one {l : List Tree} {i : Int} (h0 : 0 ≤ i) (h : i < l.length) : List.drop i.toNat (l.take (i + 1).toNat) = [l.getD i.toNat Tree.nil] := by
  rw [List.drop_take, show (i + 1).toNat - i.toNat = 1 by omega, dropI h0 h Tree.nil]
  rfl
theorem b64 : HB64 := by
  intro N list o d _ hp hN
  simp only [pre64, mu64] at hp hN
  obtain ⟨⟨hm, hr, hil⟩, hd0, hd1⟩ := hp
  obtain ⟨ik, inn, rl, re⟩ := rngOp_e hr
  rw [massOp_e] at hm hN
  have hll := massK_len o.l
  have hep := massE_pos o.e
  have hat := rightOp_at list o d
  rw [dT_nn hd0, treesG_64] at hat
  refine vc64 N list o d _ ?_; (try simp only [vcT, forall_eq])
  (simp only [vcS]); (try simp only [vcT]); (try simp only [vcU])
  try (simp only [Tree.eta, Edit.eta, Tree.kind_mk, Tree.words_mk, Tree.kids_mk])
  refine ⟨fun h0 => ⟨fun _ => by simp only [pre104]; omega, ends_bool rfl ?_⟩, fun h0 => ⟨fun hc => ends_bool rfl ?_, fun hc => ⟨fun h3 => ?_, fun h3 => ⟨fun _ => ⟨⟨by dsimp only; omega, re⟩, hd0, hd1⟩, fun _ => by simp only [mu23]; omega, fun hq => ends_bool rfl ?_, fun hq => ends_bool rfl ?_⟩⟩⟩⟩
  · rw [hat, if_pos h0, Bool.eq_iff_iff]
    (simp only [vcS])
    constructor
    · rintro ⟨h1, h2⟩; exact ⟨by omega, h2⟩
    · rintro ⟨h1, h2⟩; exact ⟨by omega, h2⟩
  · rw [hat, if_neg h0, if_pos (by omega)]
  · rw [if_neg h0, if_neg (by omega), if_pos h3] at hat
    refine loop_rule (ι := Int) (fun p => head64_0 list o d p) (fun p => 0 ≤ p ∧ p ≤ o.l.length ∧ treesOk list (o.l.drop p.toNat) = treesOk list o.l) (fun p => ((o.l.length : Int) - p).toNat) 0 rfl ⟨by omega, by omega, by simp⟩ ?_
    rintro i ⟨h4, h5, h6⟩
    refine vc64_l0 N list o d i _ _ ?_; (try simp only [vcT, forall_eq])
    (simp only [vcS]); (try simp only [vcT]); (try simp only [vcU])
    try (simp only [Tree.eta, Edit.eta, Tree.kind_mk, Tree.words_mk, Tree.kids_mk])
    refine ⟨fun hi => ?_, fun hi => ?_⟩
    · have hmem := mem_getD (l := o.l) (i := i.toNat) (by omega) Tree.nil
      have hrt := rngK_mem rl hmem
      have hmt := massK_mem hmem
      rw [drop_take_one h4 hi]
      rw [dropI h4 hi Tree.nil] at h6
      simp only [treesOk] at h6
      generalize o.l.getD i.toNat Tree.nil = t at *
      refine ⟨by unfold InR; omega, by omega, ⟨by simp only [mass, massK, List.length_nil]; omega, ⟨hil, fun x hx => (by cases hx), hrt, trivial⟩, by dsimp only; omega, by dsimp only; omega⟩, fun hq => ends_bool rfl ?_, fun hq => ⟨by unfold InR; omega, i + 1, rfl, ⟨by omega, by omega, ?_⟩, by omega⟩⟩
      · rw [hat, ← h6, hq]; rfl
      · rw [← h6, hq]; rfl
    · have hw : treesOk list o.l = true := by
        rw [← h6, List.drop_of_length_le (by omega)]; rfl
      rw [hw, Bool.true_and] at hat
      refine ⟨fun _ => by simp only [pre104]; omega, ends_bool rfl ?_⟩
      rw [hat, Bool.eq_iff_iff]
      (simp only [vcS])
      simp only [Int.natCast_pos]
  · rw [hat, if_neg h0, if_neg (by omega), if_neg h3]
    rcases hq with hq | hq
    · have : ¬(o.l.length = 0 ∧ o.e.kind ≠ 0 ∧ 7 < list) := by omega
      rw [decide_eq_false this]; rfl
    · rw [hq]; simp
  · rw [hat, if_neg h0, if_neg (by omega), if_neg h3, hq.2]
    have : o.l.length = 0 ∧ o.e.kind ≠ 0 ∧ 7 < list := by omega
    rw [decide_eq_true this, Bool.eq_iff_iff]
    (simp only [vcS])
    simp only [true_and, Bool.and_true, decide_eq_true_eq, and_assoc, or_assoc]
theorem c23_90 : Contract Try.prog cfg 23 spec23 ∧ Contract Try.prog cfg 64 spec64 := make23_64 c62 c63 c104 c37 c65 b23 b64
theorem rightE_in {e : Edit} {d : Int} (h : rightE e d = true) : (∀ k ∈ e.kids, rightE k.e (d - 1) = true ∧ k.e.kind ≠ 0) ∧ ∀ o ∈ e.ops, rightOp e.list o (d - 1) = true := by
  rw [rightE_at] at h
  split at h
  · cases h
  · split at h
    · cases h
    · rename_i h1 h2
      split at h
      · rename_i h3
        have hk : e.kids = [] := List.eq_nil_of_length_eq_zero (by omega)
        have ho : e.ops = [] := List.eq_nil_of_length_eq_zero (by omega)
        rw [hk, ho]
        exact ⟨fun k hk => (by cases hk), fun o ho => (by cases ho)⟩
      · simp only [Bool.and_eq_true] at h
        exact ⟨fun k hk => rightKs_mem h.1.1.1.2 hk, fun o ho => rightOs_mem h.1.2 ho⟩
theorem sameE_eq {e : Edit} (h : sameE e = true) : e.kind = 0 ∧ noneT e.old = true ∧ noneT e.new = true ∧ e.words = [] ∧ e.kids = [] ∧ e.ops = [] ∧ e.list = 0 := by
  simp only [sameE, Bool.and_eq_true, decide_eq_true_eq] at h
  obtain ⟨⟨⟨h1, h2⟩, h3⟩, h4, h5, h6, h7⟩ := h
  exact ⟨h1, h2, h3, List.eq_nil_of_length_eq_zero h4, List.eq_nil_of_length_eq_zero h5, List.eq_nil_of_length_eq_zero h6, h7⟩
end Go.AM.Ytpjenobkibfpcaa

namespace Go.AM
noncomputable def eqX {α : Type} (a b : α) : Bool := @decide (a = b) (Classical.propDecidable _)
theorem eqX_iff {α : Type} {a b : α} : eqX a b = true ↔ a = b := by unfold eqX; exact @decide_eq_true_iff _ (Classical.propDecidable _)
@[simp] theorem eqX_self {α : Type} (a : α) : eqX a a = true := eqX_iff.2 rfl
def takeF (o : Op) (n : Int) : Op := if opLen o ≤ n then o else if o.kind = 0 then ⟨o.kind, n, o.l, o.e⟩ else ⟨o.kind, o.n, o.l.take n.toNat, o.e⟩
def backF (o : Op) (n : Int) : Op := if o.kind = 0 then ⟨o.kind, o.n - n, o.l, o.e⟩ else ⟨o.kind, o.n, o.l.drop n.toNat, o.e⟩
def takeR (l : List Op) (n : Int) : List Op := if opLen (l.getD 0 Op.nil) ≤ n then l.drop 1 else backF (l.getD 0 Op.nil) n :: l.drop 1
def sgl (a : Int) (l : List Op) : Bool := decide (l.length ≠ 0 ∧ (l.getD 0 Op.nil).kind = a)
def opOk (o : Op) : Prop :=
  (o.kind = 0 ∧ o.l = [] ∧ (1 ≤ o.n ∧ o.n ≤ 1048576) ∧ o.e = Edit.nil) ∨ ((o.kind = 1 ∨ o.kind = 2) ∧ o.n = 0 ∧ o.l ≠ [] ∧ o.e = Edit.nil) ∨ (o.kind = 3 ∧ o.n = 0 ∧ o.l = [])
def okOs (l : List Op) : Prop := (∀ o ∈ l, opOk o) ∧ massOs l ≤ 20000000000
theorem takeR_len_le (l : List Op) (n : Int) (h : l.length ≠ 0) : (takeR l n).length ≤ l.length := by
  unfold takeR
  split <;> simp <;> omega
theorem takeR_len_lt (l : List Op) (n : Int) (h : l.length ≠ 0) (hn : opLen (l.getD 0 Op.nil) ≤ n) : (takeR l n).length < l.length := by
  unfold takeR
  rw [if_pos hn]
  simp; omega
def pairG (ap aq : Int) (p q : List Op) (out : List Piece) : List Piece × Bool × List Op × List Op :=
  if h : sgl ap p = true then pairG ap aq (p.drop 1) q (out ++ [⟨1, p.getD 0 Op.nil, Op.nil⟩])
  else if h2 : sgl aq q = true then pairG ap aq p (q.drop 1) (out ++ [⟨2, Op.nil, q.getD 0 Op.nil⟩])
  else if h3 : p.length = 0 ∨ q.length = 0 then
    if decide (p.length = 0) = decide (q.length = 0) then (out, true, p, q) else ([], false, p, q)
  else
    pairG ap aq (takeR p (min (opLen (p.getD 0 Op.nil)) (opLen (q.getD 0 Op.nil)))) (takeR q (min (opLen (p.getD 0 Op.nil)) (opLen (q.getD 0 Op.nil))))
      (out ++ [⟨0, takeF (p.getD 0 Op.nil) (min (opLen (p.getD 0 Op.nil)) (opLen (q.getD 0 Op.nil))), takeF (q.getD 0 Op.nil) (min (opLen (p.getD 0 Op.nil)) (opLen (q.getD 0 Op.nil)))⟩])
termination_by p.length + q.length
decreasing_by
  · have := (of_decide_eq_true h).1; rw [List.length_drop]; omega
  · have := (of_decide_eq_true h2).1; rw [List.length_drop]; omega
  · rcases Int.le_total (opLen (p.getD 0 Op.nil)) (opLen (q.getD 0 Op.nil)) with hm | hm
    · have a := takeR_len_lt p _ (by omega) (Int.le_refl (opLen (p.getD 0 Op.nil)))
      have b := takeR_len_le q (opLen (p.getD 0 Op.nil)) (by omega)
      rw [Int.min_eq_left hm]; omega
    · have a := takeR_len_lt q _ (by omega) (Int.le_refl (opLen (q.getD 0 Op.nil)))
      have b := takeR_len_le p (opLen (q.getD 0 Op.nil)) (by omega)
      rw [Int.min_eq_right hm]; omega
def unitsOp (i alone : Int) (o : Op) : List AUnit :=
  (if o.kind = 0 then List.replicate o.n.toNat ⟨i, 0, Tree.nil, Edit.nil, false⟩ else [])
    ++ (o.l.map (fun t => ⟨i, o.kind, t, Edit.nil, decide (o.kind = alone)⟩)
    ++ (if o.kind = 3 then [⟨i, 3, Tree.nil, o.e, false⟩] else []))
def opU (u : AUnit) : Op := if u.kind = 0 then ⟨0, 1, [], Edit.nil⟩ else if u.kind = 3 then ⟨3, 0, [], u.e⟩ else ⟨u.kind, 0, [u.t], Edit.nil⟩
end Go.AM

namespace Go.AM.Ytpjenobkibfpcaa
open Go.AM Go.Proofs
def args190 : ArgL (Op × Unit) := (.cons (aEl .op) .nil)
def pre190 (a : Op × Unit) : Prop := massOp a.1 ≤ 20000000000 ∧ 0 ≤ OpOf.n a.1 ∧ OpOf.n a.1 ≤ 1048576
noncomputable def res190 (a : Op × Unit) : V U := .c (.int .i64 (opLen a.1))
noncomputable def spec190 : Fs U := fs args190 (fun a => [pre190 a]) res190
def args191 : ArgM ((List Op × Int × Unit) × Unit) := (.obj 0 (.cons (cSl .op) (.cons (cInt .i64) .nil)) .nil)
def pre191 (a : (List Op × Int × Unit) × Unit) : Prop := (a.1.1).length ≤ 120000000000
noncomputable def res191 (a : (List Op × Int × Unit) × Unit) : V U := .c (.bool (decide ((a.1.1).length = 0)))
noncomputable def resX191 (a : (List Op × Int × Unit) × Unit) : List (List (C U)) := [[.slice (U := U) .op a.1.1 .unk, .int .i64 a.1.2.1]]
noncomputable def spec191 : Fs U := fsX args191 (fun a => [pre191 a]) res191 resX191
def args188 : ArgM ((List Op × Int × Unit) × Unit) := (.obj 0 (.cons (cSl .op) (.cons (cInt .i64) .nil)) .nil)
def pre188 (a : (List Op × Int × Unit) × Unit) : Prop := (a.1.1).length ≤ 120000000000
noncomputable def res188 (a : (List Op × Int × Unit) × Unit) : V U := .c (.bool (sgl a.1.2.1 a.1.1))
noncomputable def resX188 (a : (List Op × Int × Unit) × Unit) : List (List (C U)) := [[.slice (U := U) .op a.1.1 .unk, .int .i64 a.1.2.1]]
noncomputable def spec188 : Fs U := fsX args188 (fun a => [pre188 a]) res188 resX188
def args189 : ArgM ((List Op × Int × Unit) × Int × Unit) := (.obj 0 (.cons (cSl .op) (.cons (cInt .i64) .nil)) (.cons (aInt .i64) .nil))
def pre189 (a : (List Op × Int × Unit) × Int × Unit) : Prop := okOs a.1.1 ∧ (a.1.1).length ≠ 0 ∧ 1 ≤ a.2.1 ∧ a.2.1 ≤ 120000000000
noncomputable def res189 (a : (List Op × Int × Unit) × Int × Unit) : V U := .agg [.int .i64 (OpOf.kind (takeF ((a.1.1).getD 0 Op.nil) a.2.1)), .int .i64 (OpOf.n (takeF ((a.1.1).getD 0 Op.nil) a.2.1)), .slice (U := U) .tree (OpOf.l (takeF ((a.1.1).getD 0 Op.nil) a.2.1)) .unk, .int .i64 (Edit.kind (OpOf.e (takeF ((a.1.1).getD 0 Op.nil) a.2.1))), .int .i64 (Tree.kind (Edit.old (OpOf.e (takeF ((a.1.1).getD 0 Op.nil) a.2.1)))), .slice (U := U) .u64 (Tree.words (Edit.old (OpOf.e (takeF ((a.1.1).getD 0 Op.nil) a.2.1)))) .unk, .slice (U := U) .tree (Tree.kids (Edit.old (OpOf.e (takeF ((a.1.1).getD 0 Op.nil) a.2.1)))) .unk, .int .i64 (Tree.kind (Edit.new (OpOf.e (takeF ((a.1.1).getD 0 Op.nil) a.2.1)))), .slice (U := U) .u64 (Tree.words (Edit.new (OpOf.e (takeF ((a.1.1).getD 0 Op.nil) a.2.1)))) .unk, .slice (U := U) .tree (Tree.kids (Edit.new (OpOf.e (takeF ((a.1.1).getD 0 Op.nil) a.2.1)))) .unk, .slice (U := U) .wedit (Edit.words (OpOf.e (takeF ((a.1.1).getD 0 Op.nil) a.2.1))) .unk, .slice (U := U) .kid (Edit.kids (OpOf.e (takeF ((a.1.1).getD 0 Op.nil) a.2.1))) .unk, .int .i64 (Edit.list (OpOf.e (takeF ((a.1.1).getD 0 Op.nil) a.2.1))), .slice (U := U) .op (Edit.ops (OpOf.e (takeF ((a.1.1).getD 0 Op.nil) a.2.1))) .unk]
noncomputable def resX189 (a : (List Op × Int × Unit) × Int × Unit) : List (List (C U)) := [[.slice (U := U) .op (takeR a.1.1 a.2.1) .unk, .int .i64 a.1.2.1]]
noncomputable def spec189 : Fs U := fsX args189 (fun a => [pre189 a]) res189 resX189
def args169 : ArgM ((List Op × Int × Unit) × (List Op × Int × Unit) × Unit) := (.obj 0 (.cons (cSl .op) (.cons (cInt .i64) .nil)) (.obj 1 (.cons (cSl .op) (.cons (cInt .i64) .nil)) .nil))
def pre169 (a : (List Op × Int × Unit) × (List Op × Int × Unit) × Unit) : Prop := okOs a.1.1 ∧ okOs a.2.1.1
noncomputable def res169 (a : (List Op × Int × Unit) × (List Op × Int × Unit) × Unit) : V U := .tup [(false, [.slice (U := U) .piece ((pairG a.1.2.1 a.2.1.2.1 a.1.1 a.2.1.1 []).1) .unk]), (false, [.bool ((pairG a.1.2.1 a.2.1.2.1 a.1.1 a.2.1.1 []).2.1)])]
noncomputable def resX169 (a : (List Op × Int × Unit) × (List Op × Int × Unit) × Unit) : List (List (C U)) := [[.slice (U := U) .op ((pairG a.1.2.1 a.2.1.2.1 a.1.1 a.2.1.1 []).2.2.1) .unk, .int .i64 a.1.2.1], [.slice (U := U) .op ((pairG a.1.2.1 a.2.1.2.1 a.1.1 a.2.1.1 []).2.2.2) .unk, .int .i64 a.2.1.2.1]]
noncomputable def spec169 : Fs U := fsX args169 (fun a => [pre169 a]) res169 resX169
def args135 : ArgL (List Op × List Op × Unit) := (.cons (aSl .op) (.cons (aSl .op) .nil))
def pre135 (a : List Op × List Op × Unit) : Prop := okOs a.1 ∧ okOs a.2.1
noncomputable def res135 (a : List Op × List Op × Unit) : V U := .tup [(false, [.slice (U := U) .piece ((pairG 1 2 a.1 a.2.1 []).1) .unk]), (false, [.bool ((pairG 1 2 a.1 a.2.1 []).2.1)])]
noncomputable def spec135 : Fs U := fs args135 (fun a => [pre135 a]) res135
noncomputable def know190 : List (FuncId × Fs U) := []
def lv190 : Lives U := fun i => match i with
  | 0 => ([(1, [])], [((.loc 1), [])])
  | 1 => ([(1, []), (5, [])], [((.loc 1), [])])
  | 2 => ([(2, [])], [])
  | 3 => ([(2, [])], [])
  | _ => ([], [])
noncomputable abbrev A190 (p : List Nat) := awp cfg (know know190) (drawOk cfg (know know190)) Try.f190.ntmps lv190 (cd Try.f190 p)
theorem vc190 (o : Op) (Q : AExit → LSt U → Prop) (h : ((((((OpOf.kind o) : Int) == 3) = true → (Q .ret (⟨[(2, .c (.int .i64 1))], [], []⟩ : LSt U))) ∧ ((((OpOf.kind o) : Int) == 3) = false → (InR (((OpOf.n o) : Int) + ((OpOf.l o).length : Int))) ∧ (Q .ret (⟨[(2, .c (.int .i64 (((OpOf.n o) : Int) + ((OpOf.l o).length : Int))))], [], []⟩ : LSt U)))))) :
    A190 [] (⟨[(0, .agg [.int .i64 (OpOf.kind o), .int .i64 (OpOf.n o), .slice (U := U) .tree (OpOf.l o) .unk, .int .i64 (Edit.kind (OpOf.e o)), .int .i64 (Tree.kind (Edit.old (OpOf.e o))), .slice (U := U) .u64 (Tree.words (Edit.old (OpOf.e o))) .unk, .slice (U := U) .tree (Tree.kids (Edit.old (OpOf.e o))) .unk, .int .i64 (Tree.kind (Edit.new (OpOf.e o))), .slice (U := U) .u64 (Tree.words (Edit.new (OpOf.e o))) .unk, .slice (U := U) .tree (Tree.kids (Edit.new (OpOf.e o))) .unk, .slice (U := U) .wedit (Edit.words (OpOf.e o)) .unk, .slice (U := U) .kid (Edit.kids (OpOf.e o)) .unk, .int .i64 (Edit.list (OpOf.e o)), .slice (U := U) .op (Edit.ops (OpOf.e o)) .unk])], [], []⟩ : LSt U) Q :=
  Eq.mpr (by kernel_rfl) h
def Body190 (o : Op)  : Prop := awp cfg (know (know190)) (drawOk cfg (know (know190))) Try.f190.ntmps lv190 (cd Try.f190 []) (entry (args190.can (o, ())) []) (EndsQ cfg Try.f190.ntmps Try.f190.results.toList (res190 (o, ())) [])
theorem make190 (hb : ∀ (o : Op) (_ : Unit), pre190 (o, ()) → Body190 o) : Contract Try.prog cfg 190 spec190 :=
  contract_flat (l := []) cfgOk rfl (trivial) lv190 Try.func190 rfl rfl 1 (fun _ => rfl) (by decide) (fun ⟨o, _⟩ => hb o ())
noncomputable def know191 : List (FuncId × Fs U) := []
def lv191 : Lives U := fun i => match i with
  | 0 => ([(0, [])], [((.x 0), [])])
  | 1 => ([(2, [])], [((.x 0), [])])
  | _ => ([], [])
noncomputable abbrev A191 (p : List Nat) := awp cfg (know know191) (drawOk cfg (know know191)) Try.f191.ntmps lv191 (cd Try.f191 p)
theorem vc191 (l : List Op) (alone : Int) (Q : AExit → LSt U → Prop) (h : ((Q .ret (⟨[(2, .c (.bool (((l.length : Int) : Int) == 0)))], [((.x 0), [.slice (U := U) .op l .unk, .int .i64 alone])], []⟩ : LSt U)))) :
    A191 [] (⟨[(0, .ptr (.x 0) 0)], [((.x 0), [.slice (U := U) .op l .unk, .int .i64 alone])], []⟩ : LSt U) Q :=
  Eq.mpr (by kernel_rfl) h
def Body191 (l : List Op) (alone : Int)  : Prop := awp cfg (know (know191)) (drawOk cfg (know (know191))) Try.f191.ntmps lv191 (cd Try.f191 []) (entry (args191.can ((l, alone, ()), ())) (args191.canX ((l, alone, ()), ()))) (EndsQ cfg Try.f191.ntmps Try.f191.results.toList (res191 ((l, alone, ()), ())) (resX191 ((l, alone, ()), ())))
theorem make191 (hb : ∀ (l : List Op) (alone : Int) (_ : Unit), pre191 ((l, alone, ()), ()) → Body191 l alone) : Contract Try.prog cfg 191 spec191 :=
  contractX_flat (l := []) cfgOk rfl (trivial) lv191 Try.func191 rfl rfl 1 (fun _ => rfl) (by decide) (fun ⟨⟨l, alone, _⟩, _⟩ => hb l alone ())
noncomputable def know188 : List (FuncId × Fs U) := [(191, spec191)]
def lv188 : Lives U := fun i => match i with
  | 0 => ([(0, [])], [((.x 0), [])])
  | 1 => ([(2, [])], [((.x 0), [])])
  | _ => ([], [])
noncomputable abbrev A188 (p : List Nat) := awp cfg (know know188) (drawOk cfg (know know188)) Try.f188.ntmps lv188 (cd Try.f188 p)
theorem vc188 (l : List Op) (alone : Int) (Q : AExit → LSt U → Prop) (h : ((pre191 ((l, alone, ()), ())) ∧ (Tr ((!(decide ((l).length = 0))) = true)) ∧ (Tr ((!(decide ((l).length = 0))) = true)) ∧ (Tr ((!(decide ((l).length = 0))) = true)) ∧ (Tr ((!(decide ((l).length = 0))) = true)) ∧ ((!(decide ((l).length = 0))) = true → (0 : Int) ≤ 0 ∧ 0 < (l.length : Int)) ∧ (Tr ((!(decide ((l).length = 0))) = true)) ∧ (Tr ((!(decide ((l).length = 0))) = true)) ∧ (Tr ((!(decide ((l).length = 0))) = true)) ∧ (Tr ((!(decide ((l).length = 0))) = true)) ∧ (Tr ((!(decide ((l).length = 0))) = true)) ∧ (Tr ((!(decide ((l).length = 0))) = true)) ∧ (Tr ((!(decide ((l).length = 0))) = true)) ∧ ((Tr ((!(decide ((l).length = 0))) = true))) ∧ (Q .ret (⟨[(2, .c (.bool (bif (!(decide ((l).length = 0))) then (((OpOf.kind (List.getD l (Int.toNat 0) Op.nil)) : Int) == alone) else false)))], [((.x 0), [.slice (U := U) .op l .unk, .int .i64 alone])], []⟩ : LSt U)))) :
    A188 [] (⟨[(0, .ptr (.x 0) 0)], [((.x 0), [.slice (U := U) .op l .unk, .int .i64 alone])], []⟩ : LSt U) Q :=
  Eq.mpr (by kernel_rfl) h
def Body188 (l : List Op) (alone : Int)  : Prop := awp cfg (know (know188)) (drawOk cfg (know (know188))) Try.f188.ntmps lv188 (cd Try.f188 []) (entry (args188.can ((l, alone, ()), ())) (args188.canX ((l, alone, ()), ()))) (EndsQ cfg Try.f188.ntmps Try.f188.results.toList (res188 ((l, alone, ()), ())) (resX188 ((l, alone, ()), ())))
theorem make188 (c191 : Contract Try.prog cfg 191 spec191) (hb : ∀ (l : List Op) (alone : Int) (_ : Unit), pre188 ((l, alone, ()), ()) → Body188 l alone) : Contract Try.prog cfg 188 spec188 :=
  contractX_flat (l := [(191, spec191)]) cfgOk rfl (⟨c191, trivial⟩) lv188 Try.func188 rfl rfl 1 (fun _ => rfl) (by decide) (fun ⟨⟨l, alone, _⟩, _⟩ => hb l alone ())
noncomputable def know189 : List (FuncId × Fs U) := [(190, spec190)]
def lv189 : Lives U := fun i => match i with
  | 0 => ([(0, []), (1, []), (4, [])], [((.loc 4), []), ((.x 0), [])])
  | 1 => ([(0, []), (1, []), (4, []), (5, [])], [((.loc 4), []), ((.loc 5), []), ((.x 0), [])])
  | 2 => ([(0, []), (1, []), (4, []), (5, []), (17, [])], [((.loc 4), []), ((.loc 5), []), ((.x 0), [])])
  | 3 => ([(4, []), (5, [])], [((.loc 4), []), ((.loc 5), []), ((.x 0), [])])
  | 4 => ([(4, [])], [((.loc 4), []), ((.x 0), [])])
  | 5 => ([(0, []), (1, []), (4, []), (5, []), (6, []), (7, [])], [((.loc 4), []), ((.loc 5), []), ((.loc 6), []), ((.loc 7), []), ((.x 0), [])])
  | 6 => ([(0, []), (1, []), (4, []), (5, []), (6, []), (7, []), (31, [])], [((.loc 4), []), ((.loc 5), []), ((.loc 6), []), ((.loc 7), []), ((.x 0), [])])
  | 7 => ([(0, []), (4, []), (6, []), (7, [])], [((.loc 4), []), ((.loc 6), []), ((.loc 7), []), ((.x 0), [])])
  | 8 => ([(0, []), (4, []), (6, []), (7, [])], [((.loc 4), []), ((.loc 6), []), ((.loc 7), []), ((.x 0), [])])
  | 9 => ([(4, []), (6, [])], [((.loc 4), []), ((.loc 6), []), ((.x 0), [])])
  | 10 => ([(4, [])], [((.loc 4), []), ((.x 0), [])])
  | _ => ([], [])
noncomputable abbrev A189 (p : List Nat) := awp cfg (know know189) (drawOk cfg (know know189)) Try.f189.ntmps lv189 (cd Try.f189 p)
theorem vc189 (l : List Op) (alone : Int) (n : Int) (Q : AExit → LSt U → Prop) (h : ∀ y_1, y_1 = (List.getD l (Int.toNat 0) Op.nil) → ∀ y_2, y_2 = (y_1) → ∀ y_3, y_3 = ((OpOf.e y_1)) → (((0 : Int) ≤ 0 ∧ 0 < (l.length : Int)) ∧ ((pre190 (y_2, ())) ∧ (((decide (((opLen y_2) : Int) ≤ n)) = true → ((0 : Int) ≤ 1 ∧ 1 ≤ (l.length : Int)) ∧ ((Q .ret (⟨[(4, .ptr (.loc 4) 0)], [((.loc 4), [.int .i64 (OpOf.kind y_1), .int .i64 (OpOf.n y_1), .slice (U := U) .tree (OpOf.l y_1) .unk, .int .i64 (Edit.kind (OpOf.e y_1)), .int .i64 (Tree.kind (Edit.old (OpOf.e y_1))), .slice (U := U) .u64 (Tree.words (Edit.old (OpOf.e y_1))) .unk, .slice (U := U) .tree (Tree.kids (Edit.old (OpOf.e y_1))) .unk, .int .i64 (Tree.kind (Edit.new (OpOf.e y_1))), .slice (U := U) .u64 (Tree.words (Edit.new (OpOf.e y_1))) .unk, .slice (U := U) .tree (Tree.kids (Edit.new (OpOf.e y_1))) .unk, .slice (U := U) .wedit (Edit.words (OpOf.e y_1)) .unk, .slice (U := U) .kid (Edit.kids (OpOf.e y_1)) .unk, .int .i64 (Edit.list (OpOf.e y_1)), .slice (U := U) .op (Edit.ops (OpOf.e y_1)) .unk]), ((.x 0), [.slice (U := U) .op (List.drop (Int.toNat 1) l) .unk, .int .i64 alone])], []⟩ : LSt U)))) ∧ ((decide (((opLen y_2) : Int) ≤ n)) = false → ((((((OpOf.kind y_1) : Int) == 0) = true → (InR (((OpOf.n y_1) : Int) - n)) ∧ (((0 : Int) ≤ 1 ∧ 1 ≤ (l.length : Int)) ∧ ((([(OpOf.mk (OpOf.kind y_1) (((OpOf.n y_1) : Int) - n) (OpOf.l y_1) y_3)]).length + (List.drop (Int.toNat 1) l).length) * 240 ≤ 140737488355328) ∧ ((Q .ret (⟨[(4, .ptr (.loc 4) 0)], [((.loc 4), [.int .i64 (OpOf.kind y_1), .int .i64 n, .slice (U := U) .tree (OpOf.l y_1) .unk, .int .i64 (Edit.kind (OpOf.e y_1)), .int .i64 (Tree.kind (Edit.old (OpOf.e y_1))), .slice (U := U) .u64 (Tree.words (Edit.old (OpOf.e y_1))) .unk, .slice (U := U) .tree (Tree.kids (Edit.old (OpOf.e y_1))) .unk, .int .i64 (Tree.kind (Edit.new (OpOf.e y_1))), .slice (U := U) .u64 (Tree.words (Edit.new (OpOf.e y_1))) .unk, .slice (U := U) .tree (Tree.kids (Edit.new (OpOf.e y_1))) .unk, .slice (U := U) .wedit (Edit.words (OpOf.e y_1)) .unk, .slice (U := U) .kid (Edit.kids (OpOf.e y_1)) .unk, .int .i64 (Edit.list (OpOf.e y_1)), .slice (U := U) .op (Edit.ops (OpOf.e y_1)) .unk]), ((.x 0), [.slice (U := U) .op (([(OpOf.mk (OpOf.kind y_1) (((OpOf.n y_1) : Int) - n) (OpOf.l y_1) y_3)]) ++ (List.drop (Int.toNat 1) l)) (.own (.x 0 0)), .int .i64 alone])], []⟩ : LSt U))))) ∧ ((((OpOf.kind y_1) : Int) == 0) = false → ((0 : Int) ≤ n ∧ n ≤ ((OpOf.l y_1).length : Int)) ∧ (n = n) ∧ ((0 : Int) ≤ n ∧ n ≤ ((OpOf.l y_1).length : Int)) ∧ (((0 : Int) ≤ 1 ∧ 1 ≤ (l.length : Int)) ∧ ((([(OpOf.mk (OpOf.kind y_1) (OpOf.n y_1) (List.drop (Int.toNat n) (OpOf.l y_1)) y_3)]).length + (List.drop (Int.toNat 1) l).length) * 240 ≤ 140737488355328) ∧ ((Q .ret (⟨[(4, .ptr (.loc 4) 0)], [((.loc 4), [.int .i64 (OpOf.kind y_1), .int .i64 (OpOf.n y_1), .slice (U := U) .tree (List.take (Int.toNat n) (OpOf.l y_1)) .full, .int .i64 (Edit.kind (OpOf.e y_1)), .int .i64 (Tree.kind (Edit.old (OpOf.e y_1))), .slice (U := U) .u64 (Tree.words (Edit.old (OpOf.e y_1))) .unk, .slice (U := U) .tree (Tree.kids (Edit.old (OpOf.e y_1))) .unk, .int .i64 (Tree.kind (Edit.new (OpOf.e y_1))), .slice (U := U) .u64 (Tree.words (Edit.new (OpOf.e y_1))) .unk, .slice (U := U) .tree (Tree.kids (Edit.new (OpOf.e y_1))) .unk, .slice (U := U) .wedit (Edit.words (OpOf.e y_1)) .unk, .slice (U := U) .kid (Edit.kids (OpOf.e y_1)) .unk, .int .i64 (Edit.list (OpOf.e y_1)), .slice (U := U) .op (Edit.ops (OpOf.e y_1)) .unk]), ((.x 0), [.slice (U := U) .op (([(OpOf.mk (OpOf.kind y_1) (OpOf.n y_1) (List.drop (Int.toNat n) (OpOf.l y_1)) y_3)]) ++ (List.drop (Int.toNat 1) l)) (.own (.x 0 0)), .int .i64 alone])], []⟩ : LSt U)))))))))))) :
    A189 [] (⟨[(0, .ptr (.x 0) 0), (1, .c (.int .i64 n))], [((.x 0), [.slice (U := U) .op l .unk, .int .i64 alone])], []⟩ : LSt U) Q :=
  Eq.mpr (by kernel_rfl) (h _ rfl _ (reOp_eq _) _ (reEdit_eq _))
def Body189 (l : List Op) (alone : Int) (n : Int)  : Prop := awp cfg (know (know189)) (drawOk cfg (know (know189))) Try.f189.ntmps lv189 (cd Try.f189 []) (entry (args189.can ((l, alone, ()), n, ())) (args189.canX ((l, alone, ()), n, ()))) (EndsQ cfg Try.f189.ntmps Try.f189.results.toList (res189 ((l, alone, ()), n, ())) (resX189 ((l, alone, ()), n, ())))
theorem make189 (c190 : Contract Try.prog cfg 190 spec190) (hb : ∀ (l : List Op) (alone : Int) (n : Int) (_ : Unit), pre189 ((l, alone, ()), n, ()) → Body189 l alone n) : Contract Try.prog cfg 189 spec189 :=
  contractX_flat (l := [(190, spec190)]) cfgOk rfl (⟨c190, trivial⟩) lv189 Try.func189 rfl rfl 2 (fun _ => rfl) (by decide) (fun ⟨⟨l, alone, _⟩, n, _⟩ => hb l alone n ())
noncomputable def know169 : List (FuncId × Fs U) := [(188, spec188), (189, spec189), (190, spec190), (191, spec191)]
def lv169 : Lives U := fun i => match i with
  | 0 => ([(0, []), (1, [])], [((.x 0), []), ((.x 1), [])])
  | 1 => ([(0, []), (1, []), (6, [.own .piece])], [((.x 0), []), ((.x 1), [])])
  | 2 => ([(0, []), (1, []), (6, []), (7, [])], [((.x 0), []), ((.x 1), [])])
  | 3 => ([(0, []), (1, []), (6, [.own .piece])], [((.x 0), []), ((.x 1), [])])
  | 4 => ([(0, []), (1, []), (6, []), (33, [])], [((.x 0), []), ((.x 1), [])])
  | 5 => ([(0, []), (1, []), (6, [.own .piece])], [((.x 0), []), ((.x 1), [])])
  | 6 => ([(0, []), (1, []), (6, []), (49, [])], [((.x 0), []), ((.x 1), [])])
  | 7 => ([(0, []), (1, []), (6, [.own .piece])], [((.x 0), []), ((.x 1), [])])
  | 8 => ([(0, []), (1, []), (6, []), (65, [])], [((.x 0), []), ((.x 1), [])])
  | 9 => ([(6, []), (76, [])], [((.x 0), []), ((.x 1), [])])
  | 10 => ([(4, []), (5, [])], [((.x 0), []), ((.x 1), [])])
  | 11 => ([(4, []), (5, [])], [((.x 0), []), ((.x 1), [])])
  | _ => ([], [])
noncomputable def head169_0 (pl : List Op) (pa : Int) (ql : List Op) (qa : Int) (mx0_0 : List Op) (mx1_0 : List Op) (mx1_1 : Int) (x6 : List Piece) : LSt U := (⟨[(0, .ptr (.x 0) 0), (1, .ptr (.x 1) 0), (6, .c (.slice (U := U) .piece x6 (.own (.e 6 0))))], [((.x 0), [.slice (U := U) .op mx0_0 .unk, .int .i64 pa]), ((.x 1), [.slice (U := U) .op mx1_0 .unk, .int .i64 mx1_1])], []⟩ : LSt U)
noncomputable abbrev A169 (p : List Nat) := awp cfg (know know169) (drawOk cfg (know know169)) Try.f169.ntmps lv169 (cd Try.f169 p)
theorem vc169 (pl : List Op) (pa : Int) (ql : List Op) (qa : Int) (Q : AExit → LSt U → Prop) (h : ((LoopWp (A169 [1, 1, 0, 0]) (head169_0 pl pa ql qa pl ql qa ([])) (AExit.inBlock 0 Q)))) :
    A169 [] (⟨[(0, .ptr (.x 0) 0), (1, .ptr (.x 1) 0)], [((.x 0), [.slice (U := U) .op pl .unk, .int .i64 pa]), ((.x 1), [.slice (U := U) .op ql .unk, .int .i64 qa])], []⟩ : LSt U) Q :=
  Eq.mpr (by kernel_rfl) h
theorem vc169_l0 (pl : List Op) (pa : Int) (ql : List Op) (qa : Int) (mx0_0 : List Op) (mx1_0 : List Op) (mx1_1 : Int) (x6 : List Piece) (N0 : LSt U → Prop) (Q : AExit → LSt U → Prop) (h : ∀ y_1, y_1 = (List.getD mx0_0 (Int.toNat 0) Op.nil) → ∀ y_2, y_2 = (List.getD mx1_0 (Int.toNat 0) Op.nil) → ∀ y_3, y_3 = (Edit.mk 0 (Tree.mk 0 ([]) ([])) (Tree.mk 0 ([]) ([])) ([]) ([]) 0 ([])) → ∀ y_4, y_4 = (List.getD (bif (!(decide ((mx0_0).length = 0))) then mx1_0 else mx1_0) (Int.toNat 0) Op.nil) → ∀ y_5, y_5 = (y_1) → ∀ y_6, y_6 = (y_2) → ∀ y_7, y_7 = (y_4) → ∀ y_8, y_8 = ((takeF ((mx0_0).getD 0 Op.nil) (opLen y_5))) → ∀ y_9, y_9 = ((takeF ((mx1_0).getD 0 Op.nil) (opLen y_6))) → ∀ y_10, y_10 = ((takeF ((mx0_0).getD 0 Op.nil) (if ((opLen y_7) : Int) < (opLen y_5) then (opLen y_7) else (opLen y_5)))) → ∀ y_11, y_11 = ((takeF (((bif (!(decide ((mx0_0).length = 0))) then mx1_0 else mx1_0)).getD 0 Op.nil) (if ((opLen y_7) : Int) < (opLen y_5) then (opLen y_7) else (opLen y_5)))) → (pre188 ((mx0_0, pa, ()), ())) ∧ (((sgl pa mx0_0) = true → ((0 : Int) ≤ 0 ∧ 0 < (mx0_0.length : Int)) ∧ (pre190 (y_5, ())) ∧ (pre189 ((mx0_0, pa, ()), (opLen y_5), ())) ∧ ((x6.length + ([(Piece.mk 1 y_8 (OpOf.mk 0 0 ([]) y_3))]).length) * 488 ≤ 140737488355328) ∧ (N0 (head169_0 pl pa ql qa (takeR mx0_0 (opLen y_5)) mx1_0 mx1_1 (x6 ++ ([(Piece.mk 1 y_8 (OpOf.mk 0 0 ([]) y_3))]))))) ∧ ((sgl pa mx0_0) = false → (pre188 ((mx1_0, mx1_1, ()), ())) ∧ (((sgl mx1_1 mx1_0) = true → ((0 : Int) ≤ 0 ∧ 0 < (mx1_0.length : Int)) ∧ (pre190 (y_6, ())) ∧ (pre189 ((mx1_0, mx1_1, ()), (opLen y_6), ())) ∧ ((x6.length + ([(Piece.mk 2 (OpOf.mk 0 0 ([]) y_3) y_9)]).length) * 488 ≤ 140737488355328) ∧ (N0 (head169_0 pl pa ql qa mx0_0 (takeR mx1_0 (opLen y_6)) mx1_1 (x6 ++ ([(Piece.mk 2 (OpOf.mk 0 0 ([]) y_3) y_9)]))))) ∧ ((sgl mx1_1 mx1_0) = false → (pre191 ((mx0_0, pa, ()), ())) ∧ (Tr ((!(decide ((mx0_0).length = 0))) = true)) ∧ ((!(decide ((mx0_0).length = 0))) = true → pre191 ((mx1_0, mx1_1, ()), ())) ∧ (((decide ((mx0_0).length = 0)) = false → (!(decide ((mx0_0).length = 0))) = true)) ∧ (((bif (decide ((mx0_0).length = 0)) then true else (decide ((mx1_0).length = 0))) = true → (pre191 ((mx0_0, pa, ()), ())) ∧ (pre191 (((bif (!(decide ((mx0_0).length = 0))) then mx1_0 else mx1_0), (bif (!(decide ((mx0_0).length = 0))) then mx1_1 else mx1_1), ()), ())) ∧ ((((decide ((mx0_0).length = 0)) != (decide (((bif (!(decide ((mx0_0).length = 0))) then mx1_0 else mx1_0)).length = 0))) = true → (Q .ret (⟨[(4, .c (.nils)), (5, .c (.bool false))], [((.x 0), [.slice (U := U) .op mx0_0 .unk, .int .i64 pa]), ((.x 1), [.slice (U := U) .op (bif (!(decide ((mx0_0).length = 0))) then mx1_0 else mx1_0) .unk, .int .i64 (bif (!(decide ((mx0_0).length = 0))) then mx1_1 else mx1_1)])], []⟩ : LSt U))) ∧ (((decide ((mx0_0).length = 0)) != (decide (((bif (!(decide ((mx0_0).length = 0))) then mx1_0 else mx1_0)).length = 0))) = false → (Q .ret (⟨[(4, .c (.slice (U := U) .piece x6 (.own (.e 4 0)))), (5, .c (.bool true))], [((.x 0), [.slice (U := U) .op mx0_0 .unk, .int .i64 pa]), ((.x 1), [.slice (U := U) .op (bif (!(decide ((mx0_0).length = 0))) then mx1_0 else mx1_0) .unk, .int .i64 (bif (!(decide ((mx0_0).length = 0))) then mx1_1 else mx1_1)])], []⟩ : LSt U))))) ∧ ((bif (decide ((mx0_0).length = 0)) then true else (decide ((mx1_0).length = 0))) = false → ((0 : Int) ≤ 0 ∧ 0 < (mx0_0.length : Int)) ∧ (pre190 (y_5, ())) ∧ ((0 : Int) ≤ 0 ∧ 0 < ((bif (!(decide ((mx0_0).length = 0))) then mx1_0 else mx1_0).length : Int)) ∧ (pre190 (y_7, ())) ∧ ((pre189 ((mx0_0, pa, ()), (if ((opLen y_7) : Int) < (opLen y_5) then (opLen y_7) else (opLen y_5)), ())) ∧ (pre189 (((bif (!(decide ((mx0_0).length = 0))) then mx1_0 else mx1_0), (bif (!(decide ((mx0_0).length = 0))) then mx1_1 else mx1_1), ()), (if ((opLen y_7) : Int) < (opLen y_5) then (opLen y_7) else (opLen y_5)), ())) ∧ ((x6.length + ([(Piece.mk 0 y_10 y_11)]).length) * 488 ≤ 140737488355328) ∧ (N0 (head169_0 pl pa ql qa (takeR mx0_0 (if ((opLen y_7) : Int) < (opLen y_5) then (opLen y_7) else (opLen y_5))) (takeR (bif (!(decide ((mx0_0).length = 0))) then mx1_0 else mx1_0) (if ((opLen y_7) : Int) < (opLen y_5) then (opLen y_7) else (opLen y_5))) (bif (!(decide ((mx0_0).length = 0))) then mx1_1 else mx1_1) (x6 ++ ([(Piece.mk 0 y_10 y_11)])))))))))))) :
    A169 [1, 1, 0, 0] (head169_0 pl pa ql qa mx0_0 mx1_0 mx1_1 x6) (AExit.then N0 (AExit.inBlock 0 Q)) :=
  Eq.mpr (by kernel_rfl) (h _ rfl _ rfl _ rfl _ rfl _ (reOp_eq _) _ (reOp_eq _) _ (reOp_eq _) _ (reOp_eq _) _ (reOp_eq _) _ (reOp_eq _) _ (reOp_eq _))
def Body169 (pl : List Op) (pa : Int) (ql : List Op) (qa : Int)  : Prop := awp cfg (know (know169)) (drawOk cfg (know (know169))) Try.f169.ntmps lv169 (cd Try.f169 []) (entry (args169.can ((pl, pa, ()), (ql, qa, ()), ())) (args169.canX ((pl, pa, ()), (ql, qa, ()), ()))) (EndsQ cfg Try.f169.ntmps Try.f169.results.toList (res169 ((pl, pa, ()), (ql, qa, ()), ())) (resX169 ((pl, pa, ()), (ql, qa, ()), ())))
theorem make169 (c188 : Contract Try.prog cfg 188 spec188) (c189 : Contract Try.prog cfg 189 spec189) (c190 : Contract Try.prog cfg 190 spec190) (c191 : Contract Try.prog cfg 191 spec191) (hb : ∀ (pl : List Op) (pa : Int) (ql : List Op) (qa : Int) (_ : Unit), pre169 ((pl, pa, ()), (ql, qa, ()), ()) → Body169 pl pa ql qa) : Contract Try.prog cfg 169 spec169 :=
  contractX_flat (l := [(188, spec188), (189, spec189), (190, spec190), (191, spec191)]) cfgOk rfl (⟨c188, c189, c190, c191, trivial⟩) lv169 Try.func169 rfl rfl 2 (fun _ => rfl) (by decide) (fun ⟨⟨pl, pa, _⟩, ⟨ql, qa, _⟩, _⟩ => hb pl pa ql qa ())
noncomputable def know135 : List (FuncId × Fs U) := [(169, spec169)]
def lv135 : Lives U := fun i => match i with
  | 0 => ([(0, []), (1, [])], [])
  | 1 => ([(4, []), (5, [])], [])
  | _ => ([], [])
noncomputable abbrev A135 (p : List Nat) := awp cfg (know know135) (drawOk cfg (know know135)) Try.f135.ntmps lv135 (cd Try.f135 p)
theorem vc135 (p : List Op) (q : List Op) (Q : AExit → LSt U → Prop) (h : ((pre169 ((p, 1, ()), (q, 2, ()), ())) ∧ (Q .ret (⟨[(4, .c (.slice (U := U) .piece ((pairG 1 2 p q []).1) .unk)), (5, .c (.bool ((pairG 1 2 p q []).2.1)))], [], []⟩ : LSt U)))) :
    A135 [] (⟨[(0, .c (.slice (U := U) .op p .unk)), (1, .c (.slice (U := U) .op q .unk))], [], []⟩ : LSt U) Q :=
  Eq.mpr (by kernel_rfl) h
def Body135 (p : List Op) (q : List Op)  : Prop := awp cfg (know (know135)) (drawOk cfg (know (know135))) Try.f135.ntmps lv135 (cd Try.f135 []) (entry (args135.can (p, q, ())) []) (EndsQ cfg Try.f135.ntmps Try.f135.results.toList (res135 (p, q, ())) [])
theorem make135 (c169 : Contract Try.prog cfg 169 spec169) (hb : ∀ (p : List Op) (q : List Op) (_ : Unit), pre135 (p, q, ()) → Body135 p q) : Contract Try.prog cfg 135 spec135 :=
  contract_flat (l := [(169, spec169)]) cfgOk rfl (⟨c169, trivial⟩) lv135 Try.func135 rfl rfl 2 (fun _ => rfl) (by decide) (fun ⟨p, q, _⟩ => hb p q ())
end Go.AM.Ytpjenobkibfpcaa

namespace Go.AM.Ytpjenobkibfpcaa
open Go.AM Go.Proofs
theorem op_len {o : Op} (h : massOp o ≤ 20000000000) : o.l.length ≤ 20000000000 := by
  have := massK_len o.l
  rw [massOp_e] at h
  omega
theorem opOk_n {o : Op} (h : opOk o) : 0 ≤ o.n ∧ o.n ≤ 1048576 := by
  unfold opOk at h
  omega
theorem opLen_eq (o : Op) : opLen o = if o.kind = 3 then 1 else o.n + o.l.length := rfl
theorem c190 : Contract Try.prog cfg 190 spec190 := by
  refine make190 ?_
  intro o _ hp
  simp only [pre190] at hp
  have hl := op_len hp.1
  refine vc190 _ _ ?_; (try simp only [vcT, forall_eq])
  (simp only [vcS]); (try simp only [vcT])
  exact ⟨fun hk => ends_int rfl (by rw [opLen_eq, if_pos hk]), fun hk => ⟨by unfold InR; omega, ends_int rfl (by rw [opLen_eq, if_neg hk])⟩⟩
theorem c191 : Contract Try.prog cfg 191 spec191 := by
  refine make191 ?_
  intro l al _ hp
  refine vc191 _ _ _ ?_; (try simp only [vcT, forall_eq])
  have e : ((l.length : Int) == 0) = decide (l.length = 0) := by rw [Bool.eq_iff_iff]; (simp only [vcS]); omega
  rw [e]
  (repeat' (first | exact trivial | exact rfl | apply And.intro))
theorem c188 : Contract Try.prog cfg 188 spec188 := by
  refine make188 c191 ?_
  intro l al _ hp
  refine vc188 _ _ _ ?_; (try simp only [vcT, forall_eq])
  have e : (bif (!(decide (l.length = 0))) then ((OpOf.kind (List.getD l (Int.toNat 0) Op.nil)) == al) else false) = sgl al l := by
    rw [Bool.eq_iff_iff]
    simp only [sgl]
    (simp only [vcS])
    rfl
  rw [e]
  refine ⟨hp, fun h => ⟨by omega, ?_⟩, by (repeat' (first | exact trivial | exact rfl | apply And.intro))⟩
  revert h
  (simp only [vcS])
  omega
theorem c135 (c169 : Contract Try.prog cfg 169 spec169) : Contract Try.prog cfg 135 spec135 := by
  refine make135 c169 ?_
  intro p q _ hp
  refine vc135 _ _ _ ?_; (try simp only [vcT, forall_eq])
  refine ⟨hp, ?_⟩
  (repeat' (first | exact trivial | exact rfl | apply And.intro))
theorem c189 : Contract Try.prog cfg 189 spec189 := by
  refine make189 c190 ?_
  intro l al n _ hp
  simp only [pre189] at hp
  obtain ⟨⟨ho, hm⟩, hl, h1, h2⟩ := hp
  have hmem := mem_getD (l := l) (i := 0) (by omega) Op.nil
  have hok := ho _ hmem
  have hmo := massOs_mem hmem
  have hlen := massOs_len l
  refine vc189 _ _ _ _ ?_; (try simp only [vcT])
  rintro y rfl _ rfl _ rfl
  have e0 : (Int.toNat 0) = 0 := rfl
  have e1 : (Int.toNat 1) = 1 := rfl
  simp only [e0, e1]
  have hT : ∀ o r, takeF (l.getD 0 Op.nil) n = o → takeR l n = r → True := fun _ _ _ _ => trivial
  have hon := opOk_n hok
  have hln := opLen_eq (l.getD 0 Op.nil)
  (simp only [vcS])
  generalize hy : l.getD 0 Op.nil = y at *
  refine ⟨⟨by omega, by omega⟩, ⟨by dsimp only; omega, hon⟩, fun hc => ⟨⟨by omega, by omega⟩, ?_⟩, fun hc => ⟨fun hk => ⟨by unfold InR; omega, ⟨by omega, by omega⟩, by simp; omega, ?_⟩, fun hk => ?_⟩⟩
  · have t1 : takeF y n = y := by rw [takeF, if_pos hc]
    have t2 : takeR l n = l.drop 1 := by rw [takeR, hy, if_pos hc]
    simp only [res189, resX189, hy, t1, t2]
    (repeat' (first | exact trivial | exact rfl | apply And.intro))
  · have t1 : takeF y n = ⟨y.kind, n, y.l, y.e⟩ := by rw [takeF, if_neg hc, if_pos hk]
    have t2 : takeR l n = ⟨y.kind, y.n - n, y.l, y.e⟩ :: l.drop 1 := by rw [takeR, hy, if_neg hc, backF, if_pos hk]
    simp only [res189, resX189, hy, t1, t2]
    (repeat' (first | exact trivial | exact rfl | apply And.intro))
  · have t1 : takeF y n = ⟨y.kind, y.n, y.l.take n.toNat, y.e⟩ := by rw [takeF, if_neg hc, if_neg hk]
    have t2 : takeR l n = ⟨y.kind, y.n, y.l.drop n.toNat, y.e⟩ :: l.drop 1 := by rw [takeR, hy, if_neg hc, backF, if_neg hk]
    simp only [res189, resX189, hy, t1, t2]
    unfold opOk at hok
    refine ⟨?_, ?_, ⟨by omega, by omega⟩, by simp; omega, ?_⟩
    · split at hln <;> omega
    · split at hln <;> omega
    · (repeat' (first | exact trivial | exact rfl | apply And.intro))
theorem massK_drop (n : Nat) : ∀ (l : List Tree), massK (l.drop n) ≤ massK l := by
  induction n with
  | zero => intro l; simp
  | succ n ih =>
    intro l
    cases l with
    | nil => simp
    | cons t r => simp only [List.drop_succ_cons, massK]; have := ih r; omega
theorem massK_take (n : Nat) : ∀ (l : List Tree), massK (l.take n) ≤ massK l := by
  induction n with
  | zero => intro l; simp [massK]
  | succ n ih =>
    intro l
    cases l with
    | nil => simp
    | cons t r => simp only [List.take_succ_cons, massK]; have := ih r; omega
theorem opLen_pos {o : Op} (h : opOk o) : 1 ≤ opLen o := by
  have := opLen_eq o
  unfold opOk at h
  have hl : o.l ≠ [] → 0 < o.l.length := List.length_pos_iff.2
  rcases h with ⟨h1, h2, h3, h4⟩ | ⟨h1, h2, h3, h4⟩ | ⟨h1, h2, h3⟩
  · rw [h2] at this; simp at this; split at this <;> omega
  · have := hl h3; split at * <;> omega
  · rw [if_pos h1] at this; omega
theorem opLen_le {o : Op} (h : opOk o) (hm : massOp o ≤ 20000000000) : opLen o ≤ 20000000000 := by
  have := opLen_eq o
  have := op_len hm
  have := opOk_n h
  unfold opOk at h
  rcases h with ⟨h1, h2, h3, h4⟩ | ⟨h1, h2, h3, h4⟩ | ⟨h1, h2, h3⟩
  · simp [h2, h1] at *; omega
  · split at * <;> omega
  · split at * <;> omega
theorem massOs_cons (o : Op) (r : List Op) : massOs (o :: r) = massOp o + massOs r := rfl
theorem okOs_drop {l : List Op} (h : okOs l) : okOs (l.drop 1) := by
  cases l with
  | nil => exact h
  | cons o r =>
    obtain ⟨h1, h2⟩ := h
    rw [massOs_cons] at h2
    exact ⟨fun x hx => h1 x (List.mem_cons_of_mem _ hx), by simp only [List.drop_succ_cons, List.drop_zero]; omega⟩
theorem okOs_head {l : List Op} (h : okOs l) (hl : l.length ≠ 0) : opOk (l.getD 0 Op.nil) ∧ massOp (l.getD 0 Op.nil) ≤ 20000000000 ∧ massOp (l.getD 0 Op.nil) ≤ massOs l := by
  have hm := mem_getD (l := l) (i := 0) (by omega) Op.nil
  have := massOs_mem hm
  exact ⟨h.1 _ hm, by have := h.2; omega, this⟩
theorem backF_ok {o : Op} {n : Int} (h : opOk o) (h1 : 1 ≤ n) (h2 : ¬ opLen o ≤ n) : opOk (backF o n) ∧ massOp (backF o n) ≤ massOp o := by
  have hl := opLen_eq o
  unfold backF
  unfold opOk at *
  by_cases hk : o.kind = 0
  · rw [if_pos hk]
    refine ⟨Or.inl ?_, by simp only [massOp_e]; omega⟩
    rcases h with h | h | h
    · obtain ⟨a, b, c, d⟩ := h
      rw [b, if_neg (by omega)] at hl
      simp at hl
      exact ⟨a, b, by dsimp only; omega, d⟩
    · omega
    · omega
  · rw [if_neg hk]
    have := massK_drop n.toNat o.l
    refine ⟨Or.inr ?_, by simp only [massOp_e]; omega⟩
    rcases h with h | h | h
    · omega
    · obtain ⟨a, b, c, d⟩ := h
      rw [if_neg (by omega)] at hl
      refine Or.inl ⟨a, b, ?_, d⟩
      intro he
      have := congrArg List.length he
      simp at this
      omega
    · rw [if_pos h.1] at hl; omega
theorem okOs_takeR {l : List Op} {n : Int} (h : okOs l) (hl : l.length ≠ 0) (h1 : 1 ≤ n) : okOs (takeR l n) := by
  unfold takeR
  split
  · exact okOs_drop h
  · rename_i hc
    obtain ⟨a, b, c⟩ := okOs_head h hl
    obtain ⟨d, e⟩ := backF_ok a h1 hc
    have hd := okOs_drop h
    refine ⟨fun x hx => ?_, ?_⟩
    · rcases List.mem_cons.1 hx with rfl | hx
      · exact d
      · exact hd.1 _ hx
    · rw [massOs_cons]
      obtain _ | ⟨o, r⟩ := l
      · simp at hl
      · have := h.2
        rw [massOs_cons] at this
        simp at *
        omega
theorem takeR_all (l : List Op) : takeR l (opLen (l.getD 0 Op.nil)) = l.drop 1 := by rw [takeR, if_pos (Int.le_refl _)]
theorem takeF_all (o : Op) : takeF o (opLen o) = o := by rw [takeF, if_pos (Int.le_refl _)]
theorem sgl_len {a : Int} {l : List Op} (h : sgl a l = true) : l.length ≠ 0 := (of_decide_eq_true h).1
theorem cond_self_any {α : Type} (b : Bool) (x : α) : (bif b then x else x) = x := by cases b <;> rfl
theorem c169 : Contract Try.prog cfg 169 spec169 := by
  refine make169 c188 c189 c190 c191 ?_
  intro pl pa ql qa _ hp
  simp only [pre169] at hp
  have hpl := massOs_len pl
  have hql := massOs_len ql
  have hP := hp.1.2
  have hQ := hp.2.2
  refine vc169 _ _ _ _ _ ?_; (try simp only [vcT, forall_eq])
  refine loop_rule (ι := List Op × List Op × List Piece) (fun s => head169_0 pl pa ql qa s.1 s.2.1 qa s.2.2) (fun s => okOs s.1 ∧ okOs s.2.1 ∧ s.2.2.length + s.1.length + s.2.1.length ≤ 40000000000 ∧ pairG pa qa s.1 s.2.1 s.2.2 = pairG pa qa pl ql []) (fun s => s.1.length + s.2.1.length) (pl, ql, []) rfl ⟨hp.1, hp.2, by simp; omega, rfl⟩ ?_
  rintro ⟨p, q, out⟩ ⟨h1, h2, h3, h4⟩
  refine vc169_l0 _ _ _ _ _ _ _ _ _ _ ?_; (try simp only [vcT])
  have e0 : (Int.toNat 0) = 0 := rfl
  simp only [e0, cond_self_any]
  dsimp only at h1 h2 h3 h4
  rintro z1 hy1 z2 hy2 y3 hy3 z4 hy4 y1 rfl y2 rfl y4 rfl y8 hy8 y9 hy9 y10 hy10 y11 hy11
  have ey : y4 = y2 := hy4.trans hy2.symm
  rw [ey] at hy10 hy11 ⊢
  have e3 : (OpOf.mk 0 0 [] y3 : Op) = Op.nil := by rw [hy3]; rfl
  rw [← hy1, takeF_all] at hy8
  rw [← hy2, takeF_all] at hy9
  have hmin : ∀ a b : Int, (if a < b then a else b) = min b a := by intro a b; omega
  rw [← hy1, hmin] at hy10
  rw [← hy2, hmin] at hy11
  simp only [hmin, e3, hy8, hy9]
  (simp only [vcS])
  have o1 : p.length ≠ 0 → opOk y1 ∧ massOp y1 ≤ 20000000000 := fun h => by have := okOs_head h1 h; rw [← hy1] at this; exact ⟨this.1, this.2.1⟩
  have o2 : q.length ≠ 0 → opOk y2 ∧ massOp y2 ≤ 20000000000 := fun h => by have := okOs_head h2 h; rw [← hy2] at this; exact ⟨this.1, this.2.1⟩
  have tp : takeR p (opLen y1) = p.drop 1 := by rw [hy1]; exact takeR_all p
  have tq : takeR q (opLen y2) = q.drop 1 := by rw [hy2]; exact takeR_all q
  have hm1 := massOs_len p
  have hm2 := massOs_len q
  have hm3 := h1.2
  have hm4 := h2.2
  rw [pairG] at h4
  rw [← hy1, ← hy2] at h4
  refine ⟨by simp only [pre188]; omega, fun hs => ?_, fun hs => ?_⟩
  · have hl := sgl_len hs
    obtain ⟨oa, ob⟩ := o1 hl
    have oc := opLen_pos oa
    have od := opLen_le oa ob
    rw [dif_pos hs] at h4
    refine ⟨⟨by omega, by omega⟩, ⟨ob, opOk_n oa⟩, ⟨h1, hl, oc, by dsimp only; omega⟩, by simp; omega, (p.drop 1, q, out ++ [⟨1, y1, Op.nil⟩]), by rw [tp], ⟨okOs_drop h1, h2, by simp; omega, h4⟩, by simp; omega⟩
  · rw [dif_neg (by rw [hs]; exact Bool.false_ne_true)] at h4
    refine ⟨by simp only [pre188]; omega, fun hs2 => ?_, fun hs2 => ?_⟩
    · have hl := sgl_len hs2
      obtain ⟨oa, ob⟩ := o2 hl
      have oc := opLen_pos oa
      have od := opLen_le oa ob
      rw [dif_pos hs2] at h4
      refine ⟨⟨by omega, by omega⟩, ⟨ob, opOk_n oa⟩, ⟨h2, hl, oc, by dsimp only; omega⟩, by simp; omega, (p, q.drop 1, out ++ [⟨2, Op.nil, y2⟩]), by rw [tq], ⟨h1, okOs_drop h2, by simp; omega, h4⟩, by simp; omega⟩
    · rw [dif_neg (by rw [hs2]; exact Bool.false_ne_true)] at h4
      refine ⟨by simp only [pre191]; omega, fun _ => by simp only [pre191]; omega, fun h => h, fun hd => ⟨by simp only [pre191]; omega, by simp only [pre191]; omega, fun he => ?_, fun he => ?_⟩, fun hd => ?_⟩
      · rw [dif_pos hd, if_neg he] at h4
        simp only [res169, resX169, ← h4]
        (repeat' (first | exact trivial | exact rfl | apply And.intro))
      · rw [dif_pos hd, if_pos he] at h4
        simp only [res169, resX169, ← h4]
        (repeat' (first | exact trivial | exact rfl | apply And.intro))
      · obtain ⟨oa, ob⟩ := o1 hd.1
        obtain ⟨oc, od⟩ := o2 hd.2
        have a1 := opLen_pos oa
        have a2 := opLen_le oa ob
        have a3 := opLen_pos oc
        have a4 := opLen_le oc od
        rw [dif_neg (by omega), ← hy10, ← hy11] at h4
        have c1 := takeR_len_le p (min (opLen y1) (opLen y2)) hd.1
        have c2 := takeR_len_le q (min (opLen y1) (opLen y2)) hd.2
        have c3 : opLen y1 ≤ min (opLen y1) (opLen y2) → (takeR p (min (opLen y1) (opLen y2))).length < p.length := fun h => takeR_len_lt p _ hd.1 (by rw [← hy1]; exact h)
        have c4 : opLen y2 ≤ min (opLen y1) (opLen y2) → (takeR q (min (opLen y1) (opLen y2))).length < q.length := fun h => takeR_len_lt q _ hd.2 (by rw [← hy2]; exact h)
        refine ⟨⟨by omega, by omega⟩, ⟨ob, opOk_n oa⟩, ⟨by omega, by omega⟩, ⟨od, opOk_n oc⟩, ⟨h1, hd.1, by dsimp only; omega, by dsimp only; omega⟩, ⟨h2, hd.2, by dsimp only; omega, by dsimp only; omega⟩, by simp; omega,
          (takeR p (min (opLen y1) (opLen y2)), takeR q (min (opLen y1) (opLen y2)), out ++ [⟨0, y10, y11⟩]), rfl, ⟨okOs_takeR h1 hd.1 (by omega), okOs_takeR h2 hd.2 (by omega), by simp; omega, h4⟩, by dsimp only; omega⟩
end Go.AM.Ytpjenobkibfpcaa

namespace Go.AM.Ytpjenobkibfpcaa
open Go.AM Go.Proofs
theorem eqX_no {α : Type} {a b : α} (h : ¬ a = b) : eqX a b = false := by rw [← Bool.not_eq_true, eqX_iff]; exact h
end Go.AM.Ytpjenobkibfpcaa

namespace Go.AM.Ytpjenobkibfpcaa
open Go.AM Go.Proofs
def vu (u : AUnit) : Op × Bool := (opU u, u.alone)
def vs (a : Int) (o : Op) : List (Op × Bool) := (unitsOp 0 a o).map vu
theorem vs_split {a n : Int} {o : Op} (h : opOk o) (h1 : 1 ≤ n) (hn : ¬ opLen o ≤ n) : vs a o = vs a (takeF o n) ++ vs a (backF o n) ∧ opOk (takeF o n) ∧ opLen (takeF o n) = n ∧ massOp (takeF o n) ≤ massOp o := by
  have hl := opLen_eq o
  rcases h with ⟨k0, k1, k2, k3⟩ | ⟨k0, k1, k2, k3⟩ | ⟨k0, k1, k2⟩
  · have e1 : takeF o n = ⟨o.kind, n, o.l, o.e⟩ := by rw [takeF, if_neg hn, if_pos k0]
    have e2 : backF o n = ⟨o.kind, o.n - n, o.l, o.e⟩ := by rw [backF, if_pos k0]
    rw [if_neg (by omega), k1] at hl
    simp only [List.length_nil] at hl
    rw [e1, e2]
    refine ⟨?_, Or.inl ⟨k0, k1, by dsimp only; omega, k3⟩, ?_, by simp [massOp_e]⟩
    · simp only [vs, unitsOp, k0, k1]
      simp only [if_true, List.map_nil, List.nil_append, List.map_append, List.map_replicate]
      rw [if_neg (by decide)]
      simp only [List.map_nil, List.append_nil]
      rw [List.replicate_append_replicate]
      congr 1
      omega
    · rw [opLen_eq]
      dsimp only
      rw [if_neg (by omega), k1]
      simp
  · have e1 : takeF o n = ⟨o.kind, o.n, o.l.take n.toNat, o.e⟩ := by rw [takeF, if_neg hn, if_neg (by omega)]
    have e2 : backF o n = ⟨o.kind, o.n, o.l.drop n.toNat, o.e⟩ := by rw [backF, if_neg (by omega)]
    rw [if_neg (by omega)] at hl
    have hm := massK_take n.toNat o.l
    rw [e1, e2]
    refine ⟨?_, Or.inr (Or.inl ⟨k0, k1, ?_, k3⟩), ?_, by simp only [massOp_e]; omega⟩
    · simp only [vs, unitsOp]
      rw [if_neg (by omega), if_neg (by omega)]
      simp only [List.nil_append, List.append_nil]
      rw [← List.map_append, ← List.map_append, List.take_append_drop]
    · intro he
      have := congrArg List.length he
      simp only [List.length_take, List.length_nil] at this
      omega
    · rw [opLen_eq]
      dsimp only
      rw [if_neg (by omega), List.length_take]
      omega
  · rw [if_pos k0] at hl
    omega
theorem sgl_iff {a : Int} {l : List Op} : sgl a l = true ↔ (l.length ≠ 0 ∧ (l.getD 0 Op.nil).kind = a) := by unfold sgl; exact decide_eq_true_iff
theorem takeF_kind (o : Op) (n : Int) : (takeF o n).kind = o.kind := by
  unfold takeF; split
  · rfl
  · split <;> rfl
end Go.AM.Ytpjenobkibfpcaa

namespace Go.AM.Ytpjenobkibfpcaa
open Go.AM Go.Proofs
theorem noneT_eq {t : Tree} (h : noneT t = true) : t = Tree.nil := by
  obtain ⟨k, w, ks⟩ := t
  have := of_decide_eq_true h
  simp at this
  obtain ⟨rfl, rfl, rfl⟩ := this
  rfl
theorem sameE_nil {e : Edit} (h : sameE e = true) : e = Edit.nil := by
  obtain ⟨h1, h2, h3, h4, h5, h6, h7⟩ := sameE_eq h
  obtain ⟨k, o, n, w, ks, l, os⟩ := e
  simp at h1 h2 h3 h4 h5 h6 h7
  subst h1 h4 h5 h6 h7
  rw [noneT_eq h2, noneT_eq h3]
  rfl
theorem rightOp_ok {list : Int} {o : Op} {d : Int} (h : rightOp list o d = true) : opOk o := by
  rw [rightOp_at] at h
  unfold opOk
  split at h
  · rename_i h0
    simp only [Bool.and_eq_true, decide_eq_true_eq] at h
    exact Or.inl ⟨h0, List.length_eq_zero_iff.1 h.1.2.2, ⟨h.1.1, h.1.2.1⟩, sameE_nil h.2⟩
  · split at h
    · cases h
    · rename_i h0 h1
      split at h
      · simp only [Bool.and_eq_true, decide_eq_true_eq] at h
        refine Or.inr (Or.inl ⟨by omega, by omega, ?_, sameE_nil h.2⟩)
        exact List.length_pos_iff.1 h.1.2
      · simp only [Bool.and_eq_true, decide_eq_true_eq] at h
        exact Or.inr (Or.inr ⟨by omega, by omega, List.length_eq_zero_iff.1 h.1.1.1⟩)
end Go.AM.Ytpjenobkibfpcaa

namespace Go.AM
def idleE (list : Int) (e : Edit) : Bool := decide (e.kind = 0 ∨ (list = 9 ∧ e.kind = 2 ∧ e.words.length = 0 ∧ e.kids.length = 0))
def normsT (l : List Tree) : List Tree := l.map normT
def turnW (w : WEdit) : WEdit := ⟨w.at_, w.mask, w.new, w.old⟩
mutual
def turnE : Edit → Edit
  | .mk k o n w ks l os => .mk k n o (w.map turnW) (turnKs ks) l (turnOs os)
def turnKs : List (KidOf Edit) → List (KidOf Edit)
  | [] => []
  | k :: r => turnKid k :: turnKs r
def turnKid : KidOf Edit → KidOf Edit
  | ⟨a, e⟩ => ⟨a, turnE e⟩
def turnOs : List (OpOf Edit) → List (OpOf Edit)
  | [] => []
  | o :: r => turnOp o :: turnOs r
def turnOp : OpOf Edit → OpOf Edit
  | ⟨k, n, l, e⟩ => if k = 1 then ⟨2, n, l, e⟩ else if k = 2 then ⟨1, n, l, e⟩ else if k = 3 then ⟨k, n, l, turnE e⟩ else ⟨k, n, l, e⟩
end
end Go.AM

namespace Go.AM
def setPad {α : Type} (z : α) (l : List α) (i : Nat) (x : α) : List α := (l ++ List.replicate (i + 1 - l.length) z).set i x
def wsD (tw : List Int) : List WEdit → List Int → Option (List Int)
  | [], out => some out
  | w :: r, out => if mix 0 (tw.getD w.at_.toNat 0) w.mask = w.old then wsD tw r (setPad 0 out w.at_.toNat (mix (tw.getD w.at_.toNat 0) w.new w.mask)) else none
noncomputable def goneD (l rest : List Tree) : Bool := decide (l.length ≤ rest.length) && eqX (normsT l) (normsT (rest.take l.length))
def endD (r : Option (List Tree × List Tree)) : Option (List Tree) := r.bind fun x => if x.2.length = 0 then some x.1 else none
def nrD (r : Bool) (t : Tree) : Tree := if r then normT t else t
mutual
noncomputable def doE (r : Bool) : Edit → Tree → Option Tree
  | .mk k o n w ks l os, t =>
    (if k = 0 then some t
    else if k = 1 then (if sameT (normT o) (normT t) = true then some n else none)
    else if k = 2 then (if t.kind = 1 then (wsD t.words w t.words).bind fun a => (doKs r t.kids ks t.kids).map fun b => .mk 1 a b else none)
    else if k = 3 then (if t.kind = l then (endD (doOs r os t.kids [])).map fun b => .mk l [] b else none)
    else none).map (nrD r)
noncomputable def doKs (r : Bool) (tk : List Tree) : List (KidOf Edit) → List Tree → Option (List Tree)
  | [], out => some out
  | k :: s, out => (doKid r tk k).bind fun u => doKs r tk s (setPad Tree.nil out k.at_.toNat u)
noncomputable def doKid (r : Bool) (tk : List Tree) : KidOf Edit → Option Tree
  | ⟨a, e⟩ => doE r e (tk.getD a.toNat Tree.nil)
noncomputable def doOs (r : Bool) : List (OpOf Edit) → List Tree → List Tree → Option (List Tree × List Tree)
  | [], rest, out => some (out, rest)
  | o :: s, rest, out => (doOp r o rest out).bind fun x => doOs r s x.2 x.1
noncomputable def doOp (r : Bool) : OpOf Edit → List Tree → List Tree → Option (List Tree × List Tree)
  | ⟨k, n, l, e⟩, rest, out =>
    if k = 0 then (if n.toNat ≤ rest.length then some (out ++ rest.take n.toNat, rest.drop n.toNat) else none)
    else if k = 1 then (if goneD l rest = true then some (out, rest.drop l.length) else none)
    else if k = 2 then some (out ++ l, rest)
    else if rest.length = 0 then none else (doE r e (rest.getD 0 Tree.nil)).map fun u => (out ++ [u], rest.drop 1)
end
theorem doE_at (r : Bool) (e : Edit) (t : Tree) : doE r e t = (if e.kind = 0 then some t
    else if e.kind = 1 then (if sameT (normT e.old) (normT t) = true then some e.new else none)
    else if e.kind = 2 then (if t.kind = 1 then (wsD t.words e.words t.words).bind fun a => (doKs r t.kids e.kids t.kids).map fun b => .mk 1 a b else none)
    else if e.kind = 3 then (if t.kind = e.list then (endD (doOs r e.ops t.kids [])).map fun b => .mk e.list [] b else none)
    else none).map (nrD r) := by cases e; rfl
noncomputable def rawE (r : Bool) (e : Edit) (t : Tree) : Option Tree :=
  if e.kind = 0 then some t
  else if e.kind = 1 then (if sameT (normT e.old) (normT t) = true then some e.new else none)
  else if e.kind = 2 then (if t.kind = 1 then (wsD t.words e.words t.words).bind fun a => (doKs r t.kids e.kids t.kids).map fun b => .mk 1 a b else none)
  else if e.kind = 3 then (if t.kind = e.list then (endD (doOs r e.ops t.kids [])).map fun b => .mk e.list [] b else none)
  else none
theorem doE_raw (r : Bool) (e : Edit) (t : Tree) : doE r e t = (rawE r e t).map (nrD r) := doE_at r e t
theorem doKid_at (r : Bool) (tk : List Tree) (k : Kid) : doKid r tk k = doE r k.e (tk.getD k.at_.toNat Tree.nil) := by cases k; rfl
theorem doOp_at (r : Bool) (o : Op) (rest out : List Tree) : doOp r o rest out = if o.kind = 0 then (if o.n.toNat ≤ rest.length then some (out ++ rest.take o.n.toNat, rest.drop o.n.toNat) else none)
    else if o.kind = 1 then (if goneD o.l rest = true then some (out, rest.drop o.l.length) else none)
    else if o.kind = 2 then some (out ++ o.l, rest)
    else if rest.length = 0 then none else (doE r o.e (rest.getD 0 Tree.nil)).map fun u => (out ++ [u], rest.drop 1) := by cases o; rfl
noncomputable def strD (r : Bool) (e : Edit) (t : Tree) : Option Tree :=
  if t.kind = 1 then (wsD t.words e.words t.words).bind fun a => (doKs r t.kids e.kids t.kids).map fun b => .mk 1 a b else none
noncomputable def lstD (r : Bool) (e : Edit) (t : Tree) : Option (List Tree × List Tree) := if t.kind = e.list then doOs r e.ops t.kids [] else none
def orNil (o : Option Tree) : Tree := o.getD Tree.nil
def lstT (e : Edit) (o : Option (List Tree × List Tree)) : Tree := match o with | some x => .mk e.list [] x.1 | none => Tree.nil
noncomputable def oneT (e : Edit) (t : Tree) : Tree :=
  if e.kind = 0 then t else if e.kind = 1 then e.new else if e.kind = 2 then orNil (strD false e t) else if e.kind = 3 then lstT e (lstD false e t) else Tree.nil
theorem nrD_false (o : Option Tree) : o.map (nrD false) = o := by cases o <;> rfl
theorem oneT_some {e : Edit} {t u : Tree} (h : doE false e t = some u) : oneT e t = u := by
  rw [doE_at, nrD_false] at h
  unfold oneT
  split
  · rename_i h0; rw [if_pos h0] at h; exact Option.some.inj h
  · rename_i h0; rw [if_neg h0] at h
    split
    · rename_i h1; rw [if_pos h1] at h
      split at h
      · exact Option.some.inj h
      · cases h
    · rename_i h1; rw [if_neg h1] at h
      split
      · rename_i h2; rw [if_pos h2] at h
        unfold orNil strD
        rw [h]; rfl
      · rename_i h2; rw [if_neg h2] at h
        split
        · rename_i h3; rw [if_pos h3] at h
          unfold lstT lstD
          split at h
          · rename_i h4; rw [if_pos h4]
            revert h
            cases doOs false e.ops t.kids [] with
            | none => intro h; cases h
            | some x =>
              intro h
              simp only [endD, Option.bind_some] at h
              split at h
              · exact Option.some.inj h
              · cases h
          · cases h
        · rename_i h3; rw [if_neg h3] at h; cases h
end Go.AM

namespace Go.AM
structure Wst where
  out : List Op
  gone : List Tree
  brought : List Tree
def flushO (out : List Op) (g b : List Tree) : List Op :=
  out ++ ((if g.length = 0 then [] else [⟨1, 0, g, Edit.nil⟩]) ++ (if b.length = 0 then [] else [⟨2, 0, b, Edit.nil⟩]))
def keepO : List Op → Int → List Op
  | [], n => [⟨0, n, [], Edit.nil⟩]
  | [o], n => if o.kind = 0 then [⟨o.kind, o.n + n, o.l, o.e⟩] else [o, ⟨0, n, [], Edit.nil⟩]
  | o :: p :: r, n => o :: keepO (p :: r) n
def flushW (w : Wst) : Wst := ⟨flushO w.out w.gone w.brought, [], []⟩
def keepW (w : Wst) (n : Int) : Wst := ⟨keepO (flushW w).out n, [], []⟩
mutual
def nrmE : Edit → Edit
  | .mk k o n w ks l os =>
    if k = 1 then .mk k (normT o) (normT n) [] [] l []
    else if k = 2 then .mk k Tree.nil Tree.nil w (nrmKs ks) l []
    else if k = 3 then .mk k Tree.nil Tree.nil [] [] l (flushW (nrmOs l os ⟨[], [], []⟩)).out
    else .mk k Tree.nil Tree.nil [] [] l []
def nrmKs : List (KidOf Edit) → List (KidOf Edit)
  | [] => []
  | k :: r => nrmKid k :: nrmKs r
def nrmKid : KidOf Edit → KidOf Edit
  | ⟨a, e⟩ => ⟨a, nrmE e⟩
def nrmOs (list : Int) : List (OpOf Edit) → Wst → Wst
  | [], s => s
  | o :: r, s => nrmOs list r (nrmOp list o s)
def nrmOp (list : Int) : OpOf Edit → Wst → Wst
  | ⟨k, n, l, e⟩, s =>
    if k = 0 then keepW s n
    else if k = 1 then ⟨s.out, s.gone ++ normsT l, s.brought⟩
    else if k = 2 then ⟨s.out, s.gone, s.brought ++ normsT l⟩
    else if k = 3 then (if idleE list (nrmE e) = true then keepW s 1 else ⟨(flushW s).out ++ [⟨3, 0, [], nrmE e⟩], [], []⟩)
    else s
end
theorem nrmE_at (e : Edit) : nrmE e = if e.kind = 1 then .mk e.kind (normT e.old) (normT e.new) [] [] e.list []
    else if e.kind = 2 then .mk e.kind Tree.nil Tree.nil e.words (nrmKs e.kids) e.list []
    else if e.kind = 3 then .mk e.kind Tree.nil Tree.nil [] [] e.list (flushW (nrmOs e.list e.ops ⟨[], [], []⟩)).out
    else .mk e.kind Tree.nil Tree.nil [] [] e.list [] := by cases e; rfl
theorem nrmKid_at (k : Kid) : nrmKid k = ⟨k.at_, nrmE k.e⟩ := by cases k; rfl
theorem nrmOp_at (list : Int) (o : Op) (s : Wst) : nrmOp list o s = if o.kind = 0 then keepW s o.n
    else if o.kind = 1 then ⟨s.out, s.gone ++ normsT o.l, s.brought⟩
    else if o.kind = 2 then ⟨s.out, s.gone, s.brought ++ normsT o.l⟩
    else if o.kind = 3 then (if idleE list (nrmE o.e) = true then keepW s 1 else ⟨(flushW s).out ++ [⟨3, 0, [], nrmE o.e⟩], [], []⟩)
    else s := by cases o; rfl
end Go.AM

namespace Go.AM.Ytpjenobkibfpcaa
open Go.AM Go.Proofs
noncomputable section
def args118 : ArgL (Edit × Unit) := (.cons (aEl .edit) .nil)
def pre118 (a : Edit × Unit) : Prop := massE a.1 ≤ 20000000000
def mu118 (a : Edit × Unit) : Nat := 2 * massE a.1
noncomputable def res118 (a : Edit × Unit) : V U := .agg [.int .i64 (Edit.kind (turnE a.1)), .int .i64 (Tree.kind (Edit.old (turnE a.1))), .slice (U := U) .u64 (Tree.words (Edit.old (turnE a.1))) .unk, .slice (U := U) .tree (Tree.kids (Edit.old (turnE a.1))) .unk, .int .i64 (Tree.kind (Edit.new (turnE a.1))), .slice (U := U) .u64 (Tree.words (Edit.new (turnE a.1))) .unk, .slice (U := U) .tree (Tree.kids (Edit.new (turnE a.1))) .unk, .slice (U := U) .wedit (Edit.words (turnE a.1)) .unk, .slice (U := U) .kid (Edit.kids (turnE a.1)) .unk, .int .i64 (Edit.list (turnE a.1)), .slice (U := U) .op (Edit.ops (turnE a.1)) .unk]
noncomputable def spec118 : Fs U := fs args118 (fun a => [pre118 a]) res118
def args163 : ArgL (Op × Unit) := (.cons (aEl .op) .nil)
def pre163 (a : Op × Unit) : Prop := massOp a.1 ≤ 20000000000
def mu163 (a : Op × Unit) : Nat := 2 * massOp a.1 + 1
noncomputable def res163 (a : Op × Unit) : V U := .agg [.int .i64 (OpOf.kind (turnOp a.1)), .int .i64 (OpOf.n (turnOp a.1)), .slice (U := U) .tree (OpOf.l (turnOp a.1)) .unk, .int .i64 (Edit.kind (OpOf.e (turnOp a.1))), .int .i64 (Tree.kind (Edit.old (OpOf.e (turnOp a.1)))), .slice (U := U) .u64 (Tree.words (Edit.old (OpOf.e (turnOp a.1)))) .unk, .slice (U := U) .tree (Tree.kids (Edit.old (OpOf.e (turnOp a.1)))) .unk, .int .i64 (Tree.kind (Edit.new (OpOf.e (turnOp a.1)))), .slice (U := U) .u64 (Tree.words (Edit.new (OpOf.e (turnOp a.1)))) .unk, .slice (U := U) .tree (Tree.kids (Edit.new (OpOf.e (turnOp a.1)))) .unk, .slice (U := U) .wedit (Edit.words (OpOf.e (turnOp a.1))) .unk, .slice (U := U) .kid (Edit.kids (OpOf.e (turnOp a.1))) .unk, .int .i64 (Edit.list (OpOf.e (turnOp a.1))), .slice (U := U) .op (Edit.ops (OpOf.e (turnOp a.1))) .unk]
noncomputable def spec163 : Fs U := fs args163 (fun a => [pre163 a]) res163
noncomputable def know118 (N : Nat) : List (FuncId × Fs U) := (118, fs args118 (fun a => [pre118 a, mu118 a < N]) res118) :: (163, fs args163 (fun a => [pre163 a, mu163 a < N]) res163) :: []
def lv118 : Lives U := fun i => match i with
  | 0 => ([(1, []), (2, [])], [((.loc 1), []), ((.loc 2), [])])
  | 1 => ([(1, []), (2, []), (3, [])], [((.loc 1), []), ((.loc 2), []), ((.loc 3), [])])
  | 2 => ([(1, []), (2, []), (3, []), (20, []), (21, []), (22, [])], [((.loc 1), []), ((.loc 2), []), ((.loc 3), [.any, .any, .any, .any, .any, .any, .any, .own .wedit])])
  | 3 => ([(1, []), (2, []), (3, []), (20, []), (21, []), (22, []), (23, [])], [((.loc 1), []), ((.loc 2), []), ((.loc 3), [])])
  | 4 => ([(1, []), (2, []), (3, []), (5, []), (20, []), (21, []), (22, [])], [((.loc 1), []), ((.loc 2), []), ((.loc 3), []), ((.loc 5), [])])
  | 5 => ([(1, []), (2, []), (3, []), (20, []), (21, []), (22, [])], [((.loc 1), []), ((.loc 2), []), ((.loc 3), [])])
  | 6 => ([(1, []), (2, []), (3, []), (20, []), (21, []), (22, [])], [((.loc 1), []), ((.loc 2), []), ((.loc 3), [.any, .any, .any, .any, .any, .any, .any, .own .wedit])])
  | 7 => ([(1, []), (2, []), (3, []), (42, []), (43, []), (44, [])], [((.loc 1), []), ((.loc 2), []), ((.loc 3), [.any, .any, .any, .any, .any, .any, .any, .any, .own .kid])])
  | 8 => ([(1, []), (2, []), (3, []), (42, []), (43, []), (44, []), (45, [])], [((.loc 1), []), ((.loc 2), []), ((.loc 3), [])])
  | 9 => ([(1, []), (2, []), (3, []), (7, []), (42, []), (43, []), (44, [])], [((.loc 1), []), ((.loc 2), []), ((.loc 3), []), ((.loc 7), [])])
  | 10 => ([(1, []), (2, []), (3, []), (42, []), (43, []), (44, [])], [((.loc 1), []), ((.loc 2), []), ((.loc 3), [])])
  | 11 => ([(1, []), (2, []), (3, []), (42, []), (43, []), (44, [])], [((.loc 1), []), ((.loc 2), []), ((.loc 3), [.any, .any, .any, .any, .any, .any, .any, .any, .own .kid])])
  | 12 => ([(2, []), (3, []), (61, []), (62, []), (63, [])], [((.loc 2), []), ((.loc 3), [.any, .any, .any, .any, .any, .any, .any, .any, .any, .any, .own .op])])
  | 13 => ([(2, []), (3, []), (61, []), (62, []), (63, []), (64, [])], [((.loc 2), []), ((.loc 3), [])])
  | 14 => ([(2, []), (3, []), (9, []), (61, []), (62, []), (63, [])], [((.loc 2), []), ((.loc 3), []), ((.loc 9), [])])
  | 15 => ([(2, []), (3, []), (61, []), (62, []), (63, [])], [((.loc 2), []), ((.loc 3), [])])
  | 16 => ([(2, []), (3, []), (61, []), (62, []), (63, [])], [((.loc 2), []), ((.loc 3), [.any, .any, .any, .any, .any, .any, .any, .any, .any, .any, .own .op])])
  | 17 => ([(2, [])], [((.loc 2), [])])
  | _ => ([], [])
def head118_0 (e : Edit) (x22 : Int) (ml3_7 : List WEdit) : LSt U := (⟨[(1, .ptr (.loc 1) 0), (2, .ptr (.loc 2) 0), (3, .ptr (.loc 3) 0), (20, .c (.slice (U := U) .wedit (Edit.words e) .unk)), (21, .c (.int .i64 ((Edit.words e).length : Int))), (22, .c (.int .i64 x22))], [((.loc 1), [.int .i64 (Edit.kind e), .int .i64 (Tree.kind (Edit.old e)), .slice (U := U) .u64 (Tree.words (Edit.old e)) .unk, .slice (U := U) .tree (Tree.kids (Edit.old e)) .unk, .int .i64 (Tree.kind (Edit.new e)), .slice (U := U) .u64 (Tree.words (Edit.new e)) .unk, .slice (U := U) .tree (Tree.kids (Edit.new e)) .unk, .slice (U := U) .wedit (Edit.words e) .unk, .slice (U := U) .kid (Edit.kids e) .unk, .int .i64 (Edit.list e), .slice (U := U) .op (Edit.ops e) .unk]), ((.loc 2), [.int .i64 0, .int .i64 0, .nils, .nils, .int .i64 0, .nils, .nils, .nils, .nils, .int .i64 0, .nils]), ((.loc 3), [.int .i64 (Edit.kind e), .int .i64 (Tree.kind (Edit.new e)), .slice (U := U) .u64 (Tree.words (Edit.new e)) .unk, .slice (U := U) .tree (Tree.kids (Edit.new e)) .unk, .int .i64 (Tree.kind (Edit.old e)), .slice (U := U) .u64 (Tree.words (Edit.old e)) .unk, .slice (U := U) .tree (Tree.kids (Edit.old e)) .unk, .slice (U := U) .wedit ml3_7 (.own (.l 3 7)), .nils, .int .i64 (Edit.list e), .nils])], []⟩ : LSt U)
def head118_1 (e : Edit) (ml3_7 : List WEdit) (x44_a : Int) (ml3_8_a : List Kid) : LSt U := (⟨[(1, .ptr (.loc 1) 0), (2, .ptr (.loc 2) 0), (3, .ptr (.loc 3) 0), (42, .c (.slice (U := U) .kid (Edit.kids e) .unk)), (43, .c (.int .i64 ((Edit.kids e).length : Int))), (44, .c (.int .i64 x44_a))], [((.loc 1), [.int .i64 (Edit.kind e), .int .i64 (Tree.kind (Edit.old e)), .slice (U := U) .u64 (Tree.words (Edit.old e)) .unk, .slice (U := U) .tree (Tree.kids (Edit.old e)) .unk, .int .i64 (Tree.kind (Edit.new e)), .slice (U := U) .u64 (Tree.words (Edit.new e)) .unk, .slice (U := U) .tree (Tree.kids (Edit.new e)) .unk, .slice (U := U) .wedit (Edit.words e) .unk, .slice (U := U) .kid (Edit.kids e) .unk, .int .i64 (Edit.list e), .slice (U := U) .op (Edit.ops e) .unk]), ((.loc 2), [.int .i64 0, .int .i64 0, .nils, .nils, .int .i64 0, .nils, .nils, .nils, .nils, .int .i64 0, .nils]), ((.loc 3), [.int .i64 (Edit.kind e), .int .i64 (Tree.kind (Edit.new e)), .slice (U := U) .u64 (Tree.words (Edit.new e)) .unk, .slice (U := U) .tree (Tree.kids (Edit.new e)) .unk, .int .i64 (Tree.kind (Edit.old e)), .slice (U := U) .u64 (Tree.words (Edit.old e)) .unk, .slice (U := U) .tree (Tree.kids (Edit.old e)) .unk, .slice (U := U) .wedit ml3_7 (.own (.l 3 7)), .slice (U := U) .kid ml3_8_a (.own (.l 3 8)), .int .i64 (Edit.list e), .nils])], []⟩ : LSt U)
def head118_2 (e : Edit) (ml3_7 : List WEdit) (ml3_8_a : List Kid) (x63_b : Int) (ml3_10_b : List Op) : LSt U := (⟨[(2, .ptr (.loc 2) 0), (3, .ptr (.loc 3) 0), (61, .c (.slice (U := U) .op (Edit.ops e) .unk)), (62, .c (.int .i64 ((Edit.ops e).length : Int))), (63, .c (.int .i64 x63_b))], [((.loc 2), [.int .i64 0, .int .i64 0, .nils, .nils, .int .i64 0, .nils, .nils, .nils, .nils, .int .i64 0, .nils]), ((.loc 3), [.int .i64 (Edit.kind e), .int .i64 (Tree.kind (Edit.new e)), .slice (U := U) .u64 (Tree.words (Edit.new e)) .unk, .slice (U := U) .tree (Tree.kids (Edit.new e)) .unk, .int .i64 (Tree.kind (Edit.old e)), .slice (U := U) .u64 (Tree.words (Edit.old e)) .unk, .slice (U := U) .tree (Tree.kids (Edit.old e)) .unk, .slice (U := U) .wedit ml3_7 (.own (.l 3 7)), .slice (U := U) .kid ml3_8_a (.own (.l 3 8)), .int .i64 (Edit.list e), .slice (U := U) .op ml3_10_b (.own (.l 3 10))])], []⟩ : LSt U)
abbrev W118 (N : Nat) (e : Edit) (Q : AExit → LSt U → Prop) := awp cfg (know (know118 N)) (drawOk cfg (know (know118 N))) Try.f118.ntmps lv118 (cd Try.f118 []) (⟨[(0, .agg [.int .i64 (Edit.kind e), .int .i64 (Tree.kind (Edit.old e)), .slice (U := U) .u64 (Tree.words (Edit.old e)) .unk, .slice (U := U) .tree (Tree.kids (Edit.old e)) .unk, .int .i64 (Tree.kind (Edit.new e)), .slice (U := U) .u64 (Tree.words (Edit.new e)) .unk, .slice (U := U) .tree (Tree.kids (Edit.new e)) .unk, .slice (U := U) .wedit (Edit.words e) .unk, .slice (U := U) .kid (Edit.kids e) .unk, .int .i64 (Edit.list e), .slice (U := U) .op (Edit.ops e) .unk])], [], []⟩ : LSt U) Q
abbrev a118_KG22a (N : Nat) := awp cfg (know (know118 N)) (drawOk cfg (know (know118 N))) Try.f118.ntmps lv118
abbrev s118_KG22a (N : Nat) := seqK cfg (know (know118 N)) (drawOk cfg (know (know118 N))) Try.f118.ntmps lv118
theorem vc118 (N : Nat) (e : Edit) (Q : AExit → LSt U → Prop) (h : LoopWp (awp cfg (know (know118 N)) (drawOk cfg (know (know118 N))) Try.f118.ntmps lv118 (cd Try.f118 [1, 1, 0, 1, 0, 0])) (head118_0 e 0 ([])) (AExit.inBlock 0 (seqK cfg (know (know118 N)) (drawOk cfg (know (know118 N))) Try.f118.ntmps lv118 (cd Try.f118 [1, 1, 1]) Q))) :
    W118 N e Q := by
  have e_ : (W118 N e Q) = ((((LoopWp (a118_KG22a N (cd Try.f118 [1, 1, 0, 1, 0, 0])) (head118_0 e 0 ([])) (AExit.inBlock 0 (s118_KG22a N (cd Try.f118 [1, 1, 1]) Q)))))) := by kernel_rfl
  exact e_.mpr h
abbrev W118_l0 (N : Nat) (e : Edit) (x22 : Int) (ml3_7 : List WEdit) (N0 : LSt U → Prop) (Q : AExit → LSt U → Prop) := awp cfg (know (know118 N)) (drawOk cfg (know (know118 N))) Try.f118.ntmps lv118 (cd Try.f118 [1, 1, 0, 1, 0, 0]) (head118_0 e x22 ml3_7) (AExit.then N0 (AExit.inBlock 0 (seqK cfg (know (know118 N)) (drawOk cfg (know (know118 N))) Try.f118.ntmps lv118 (cd Try.f118 [1, 1, 1]) Q)))
theorem vc118_l0 (N : Nat) (e : Edit) (x22 : Int) (ml3_7 : List WEdit) (N0 : LSt U → Prop) (Q : AExit → LSt U → Prop) (h : ((decide ((x22 : Int) < ((Edit.words e).length : Int))) = true → ((0 : Int) ≤ x22 ∧ x22 < ((Edit.words e).length : Int)) ∧ (((ml3_7.length + ([(WEdit.mk (WEdit.at_ (List.getD (Edit.words e) (Int.toNat x22) (WEdit.mk 0 0 0 0))) (WEdit.mask (List.getD (Edit.words e) (Int.toNat x22) (WEdit.mk 0 0 0 0))) (WEdit.new (List.getD (Edit.words e) (Int.toNat x22) (WEdit.mk 0 0 0 0))) (WEdit.old (List.getD (Edit.words e) (Int.toNat x22) (WEdit.mk 0 0 0 0))))]).length) * 32 ≤ 140737488355328) ∧ ((InR ((x22 : Int) + 1)) ∧ (N0 (head118_0 e ((x22 : Int) + 1) (ml3_7 ++ ([(WEdit.mk (WEdit.at_ (List.getD (Edit.words e) (Int.toNat x22) (WEdit.mk 0 0 0 0))) (WEdit.mask (List.getD (Edit.words e) (Int.toNat x22) (WEdit.mk 0 0 0 0))) (WEdit.new (List.getD (Edit.words e) (Int.toNat x22) (WEdit.mk 0 0 0 0))) (WEdit.old (List.getD (Edit.words e) (Int.toNat x22) (WEdit.mk 0 0 0 0))))]))))))) ∧ ((decide ((x22 : Int) < ((Edit.words e).length : Int))) = false → LoopWp (awp cfg (know (know118 N)) (drawOk cfg (know (know118 N))) Try.f118.ntmps lv118 (cd Try.f118 [1, 1, 1, 0, 1, 0, 0])) (head118_1 e ml3_7 0 ([])) (AExit.inBlock 2 (seqK cfg (know (know118 N)) (drawOk cfg (know (know118 N))) Try.f118.ntmps lv118 (cd Try.f118 [1, 1, 1, 1]) Q)))) :
    W118_l0 N e x22 ml3_7 N0 Q := by
  have e_ : (W118_l0 N e x22 ml3_7 N0 Q) = (let zz0 := (decide ((x22 : Int) < ((Edit.words e).length : Int))); ((zz0 = true → ((0 : Int) ≤ x22 ∧ x22 < ((Edit.words e).length : Int)) ∧ (((ml3_7.length + ([(WEdit.mk (WEdit.at_ (List.getD (Edit.words e) (Int.toNat x22) (WEdit.mk 0 0 0 0))) (WEdit.mask (List.getD (Edit.words e) (Int.toNat x22) (WEdit.mk 0 0 0 0))) (WEdit.new (List.getD (Edit.words e) (Int.toNat x22) (WEdit.mk 0 0 0 0))) (WEdit.old (List.getD (Edit.words e) (Int.toNat x22) (WEdit.mk 0 0 0 0))))]).length) * 32 ≤ 140737488355328) ∧ ((InR ((x22 : Int) + 1)) ∧ (N0 (head118_0 e ((x22 : Int) + 1) (ml3_7 ++ ([(WEdit.mk (WEdit.at_ (List.getD (Edit.words e) (Int.toNat x22) (WEdit.mk 0 0 0 0))) (WEdit.mask (List.getD (Edit.words e) (Int.toNat x22) (WEdit.mk 0 0 0 0))) (WEdit.new (List.getD (Edit.words e) (Int.toNat x22) (WEdit.mk 0 0 0 0))) (WEdit.old (List.getD (Edit.words e) (Int.toNat x22) (WEdit.mk 0 0 0 0))))]))))))) ∧ (zz0 = false → (LoopWp (a118_KG22a N (cd Try.f118 [1, 1, 1, 0, 1, 0, 0])) (head118_1 e ml3_7 0 ([])) (AExit.inBlock 2 (s118_KG22a N (cd Try.f118 [1, 1, 1, 1]) Q)))))) := by kernel_rfl
  exact e_.mpr ⟨fun c_7 => ⟨(h.1 c_7).1, ⟨(h.1 c_7).2.1, ⟨(h.1 c_7).2.2.1, (h.1 c_7).2.2.2⟩⟩⟩, fun c_7 => (h.2 c_7)⟩
abbrev W118_l1 (N : Nat) (e : Edit) (ml3_7 : List WEdit) (x44_a : Int) (ml3_8_a : List Kid) (N1 : LSt U → Prop) (Q : AExit → LSt U → Prop) := awp cfg (know (know118 N)) (drawOk cfg (know (know118 N))) Try.f118.ntmps lv118 (cd Try.f118 [1, 1, 1, 0, 1, 0, 0]) (head118_1 e ml3_7 x44_a ml3_8_a) (AExit.then N1 (AExit.inBlock 2 (seqK cfg (know (know118 N)) (drawOk cfg (know (know118 N))) Try.f118.ntmps lv118 (cd Try.f118 [1, 1, 1, 1]) Q)))
theorem vc118_l1 (N : Nat) (e : Edit) (ml3_7 : List WEdit) (x44_a : Int) (ml3_8_a : List Kid) (N1 : LSt U → Prop) (Q : AExit → LSt U → Prop) (h : ∀ y_1, y_1 = (List.getD (Edit.kids e) (Int.toNat x44_a) (KidOf.mk 0 Edit.nil)) → ∀ y_2, y_2 = ((KidOf.e y_1)) → ∀ y_3, y_3 = ((turnE y_2)) → ((decide ((x44_a : Int) < ((Edit.kids e).length : Int))) = true → ((0 : Int) ≤ x44_a ∧ x44_a < ((Edit.kids e).length : Int)) ∧ ((pre118 (y_2, ())) ∧ (mu118 (y_2, ()) < N) ∧ ((ml3_8_a.length + ([(KidOf.mk (KidOf.at_ y_1) y_3 : Kid)]).length) * 208 ≤ 140737488355328) ∧ ((InR ((x44_a : Int) + 1)) ∧ (N1 (head118_1 e ml3_7 ((x44_a : Int) + 1) (ml3_8_a ++ ([(KidOf.mk (KidOf.at_ y_1) y_3 : Kid)]))))))) ∧ ((decide ((x44_a : Int) < ((Edit.kids e).length : Int))) = false → LoopWp (awp cfg (know (know118 N)) (drawOk cfg (know (know118 N))) Try.f118.ntmps lv118 (cd Try.f118 [1, 1, 1, 1, 0, 1, 0, 0])) (head118_2 e ml3_7 ml3_8_a 0 ([])) (AExit.inBlock 4 (seqK cfg (know (know118 N)) (drawOk cfg (know (know118 N))) Try.f118.ntmps lv118 (cd Try.f118 [1, 1, 1, 1, 1]) Q)))) :
    W118_l1 N e ml3_7 x44_a ml3_8_a N1 Q := by
  have e_ : (W118_l1 N e ml3_7 x44_a ml3_8_a N1 Q) = (let y_1 := (List.getD (Edit.kids e) (Int.toNat x44_a) (KidOf.mk 0 Edit.nil)); let y_2 := (reEdit (KidOf.e y_1)); let y_3 := (reEdit (turnE y_2)); let zz0 := (decide ((x44_a : Int) < ((Edit.kids e).length : Int))); ((zz0 = true → ((0 : Int) ≤ x44_a ∧ x44_a < ((Edit.kids e).length : Int)) ∧ ((pre118 (y_2, ())) ∧ (mu118 (y_2, ()) < N) ∧ ((ml3_8_a.length + ([(KidOf.mk (KidOf.at_ y_1) y_3 : Kid)]).length) * 208 ≤ 140737488355328) ∧ ((InR ((x44_a : Int) + 1)) ∧ (N1 (head118_1 e ml3_7 ((x44_a : Int) + 1) (ml3_8_a ++ ([(KidOf.mk (KidOf.at_ y_1) y_3 : Kid)]))))))) ∧ (zz0 = false → (LoopWp (a118_KG22a N (cd Try.f118 [1, 1, 1, 1, 0, 1, 0, 0])) (head118_2 e ml3_7 ml3_8_a 0 ([])) (AExit.inBlock 4 (s118_KG22a N (cd Try.f118 [1, 1, 1, 1, 1]) Q)))))) := by kernel_rfl
  exact e_.mpr (by intro y_1 y_2 y_3; have hh := h y_1 rfl y_2 (reEdit_eq _) y_3 (reEdit_eq _); exact ⟨fun c_8 => ⟨(hh.1 c_8).1, ⟨(hh.1 c_8).2.1, (hh.1 c_8).2.2.1, (hh.1 c_8).2.2.2.1, ⟨(hh.1 c_8).2.2.2.2.1, (hh.1 c_8).2.2.2.2.2⟩⟩⟩, fun c_8 => (hh.2 c_8)⟩)
abbrev W118_l2 (N : Nat) (e : Edit) (ml3_7 : List WEdit) (ml3_8_a : List Kid) (x63_b : Int) (ml3_10_b : List Op) (N2 : LSt U → Prop) (Q : AExit → LSt U → Prop) := awp cfg (know (know118 N)) (drawOk cfg (know (know118 N))) Try.f118.ntmps lv118 (cd Try.f118 [1, 1, 1, 1, 0, 1, 0, 0]) (head118_2 e ml3_7 ml3_8_a x63_b ml3_10_b) (AExit.then N2 (AExit.inBlock 4 (seqK cfg (know (know118 N)) (drawOk cfg (know (know118 N))) Try.f118.ntmps lv118 (cd Try.f118 [1, 1, 1, 1, 1]) Q)))
theorem vc118_l2 (N : Nat) (e : Edit) (ml3_7 : List WEdit) (ml3_8_a : List Kid) (x63_b : Int) (ml3_10_b : List Op) (N2 : LSt U → Prop) (Q : AExit → LSt U → Prop) (h : ∀ y_1, y_1 = (List.getD (Edit.ops e) (Int.toNat x63_b) Op.nil) → ∀ y_2, y_2 = (y_1) → ∀ y_3, y_3 = ((turnOp y_2)) → ((decide ((x63_b : Int) < ((Edit.ops e).length : Int))) = true → ((0 : Int) ≤ x63_b ∧ x63_b < ((Edit.ops e).length : Int)) ∧ ((pre163 (y_2, ())) ∧ (mu163 (y_2, ()) < N) ∧ ((ml3_10_b.length + ([y_3]).length) * 240 ≤ 140737488355328) ∧ ((InR ((x63_b : Int) + 1)) ∧ (N2 (head118_2 e ml3_7 ml3_8_a ((x63_b : Int) + 1) (ml3_10_b ++ ([y_3]))))))) ∧ ((decide ((x63_b : Int) < ((Edit.ops e).length : Int))) = false → Q .ret (⟨[(2, .ptr (.loc 2) 0)], [((.loc 2), [.int .i64 (Edit.kind e), .int .i64 (Tree.kind (Edit.new e)), .slice (U := U) .u64 (Tree.words (Edit.new e)) .unk, .slice (U := U) .tree (Tree.kids (Edit.new e)) .unk, .int .i64 (Tree.kind (Edit.old e)), .slice (U := U) .u64 (Tree.words (Edit.old e)) .unk, .slice (U := U) .tree (Tree.kids (Edit.old e)) .unk, .slice (U := U) .wedit ml3_7 (.own (.l 2 7)), .slice (U := U) .kid ml3_8_a (.own (.l 2 8)), .int .i64 (Edit.list e), .slice (U := U) .op ml3_10_b (.own (.l 2 10))])], []⟩ : LSt U))) :
    W118_l2 N e ml3_7 ml3_8_a x63_b ml3_10_b N2 Q := by
  have e_ : (W118_l2 N e ml3_7 ml3_8_a x63_b ml3_10_b N2 Q) = (let y_1 := (List.getD (Edit.ops e) (Int.toNat x63_b) Op.nil); let y_2 := (reOp y_1); let y_3 := (reOp (turnOp y_2)); let zz0 := (decide ((x63_b : Int) < ((Edit.ops e).length : Int))); ((zz0 = true → ((0 : Int) ≤ x63_b ∧ x63_b < ((Edit.ops e).length : Int)) ∧ ((pre163 (y_2, ())) ∧ (mu163 (y_2, ()) < N) ∧ ((ml3_10_b.length + ([y_3]).length) * 240 ≤ 140737488355328) ∧ ((InR ((x63_b : Int) + 1)) ∧ (N2 (head118_2 e ml3_7 ml3_8_a ((x63_b : Int) + 1) (ml3_10_b ++ ([y_3]))))))) ∧ (zz0 = false → (Q .ret (⟨[(2, .ptr (.loc 2) 0)], [((.loc 2), [.int .i64 (Edit.kind e), .int .i64 (Tree.kind (Edit.new e)), .slice (U := U) .u64 (Tree.words (Edit.new e)) .unk, .slice (U := U) .tree (Tree.kids (Edit.new e)) .unk, .int .i64 (Tree.kind (Edit.old e)), .slice (U := U) .u64 (Tree.words (Edit.old e)) .unk, .slice (U := U) .tree (Tree.kids (Edit.old e)) .unk, .slice (U := U) .wedit ml3_7 (.own (.l 2 7)), .slice (U := U) .kid ml3_8_a (.own (.l 2 8)), .int .i64 (Edit.list e), .slice (U := U) .op ml3_10_b (.own (.l 2 10))])], []⟩ : LSt U))))) := by kernel_rfl
  exact e_.mpr (by intro y_1 y_2 y_3; have hh := h y_1 rfl y_2 (reOp_eq _) y_3 (reOp_eq _); exact ⟨fun c_9 => ⟨(hh.1 c_9).1, ⟨(hh.1 c_9).2.1, (hh.1 c_9).2.2.1, (hh.1 c_9).2.2.2.1, ⟨(hh.1 c_9).2.2.2.2.1, (hh.1 c_9).2.2.2.2.2⟩⟩⟩, fun c_9 => (hh.2 c_9)⟩)
def Body118 (N : Nat) (e : Edit)  : Prop := awp cfg (know (know118 N)) (drawOk cfg (know (know118 N))) Try.f118.ntmps lv118 (cd Try.f118 []) (entry (args118.can (e, ())) []) (EndsQ cfg Try.f118.ntmps Try.f118.results.toList (res118 (e, ())) [])
abbrev HB118 : Prop := ∀ (N : Nat) (e : Edit) (_ : Unit), pre118 (e, ()) → mu118 (e, ()) < N + 1 → Body118 N e
noncomputable def know163 (N : Nat) : List (FuncId × Fs U) := (118, fs args118 (fun a => [pre118 a, mu118 a < N]) res118) :: (163, fs args163 (fun a => [pre163 a, mu163 a < N]) res163) :: []
def lv163 : Lives U := fun i => match i with
  | 0 => ([(1, []), (2, [])], [((.loc 1), []), ((.loc 2), [])])
  | 1 => ([(1, []), (2, []), (4, [])], [((.loc 1), []), ((.loc 2), [])])
  | 2 => ([(1, []), (2, []), (4, []), (5, [])], [((.loc 1), []), ((.loc 2), [])])
  | 3 => ([(1, []), (2, [])], [((.loc 1), []), ((.loc 2), [])])
  | 4 => ([(1, []), (2, []), (4, []), (8, [])], [((.loc 1), []), ((.loc 2), [])])
  | 5 => ([(1, []), (2, [])], [((.loc 1), []), ((.loc 2), [])])
  | 6 => ([(1, []), (2, []), (11, [])], [((.loc 1), []), ((.loc 2), [])])
  | 7 => ([(1, []), (2, [])], [((.loc 1), []), ((.loc 2), [])])
  | 8 => ([(2, [])], [((.loc 2), [])])
  | _ => ([], [])
abbrev W163 (N : Nat) (o : Op) (Q : AExit → LSt U → Prop) := awp cfg (know (know163 N)) (drawOk cfg (know (know163 N))) Try.f163.ntmps lv163 (cd Try.f163 []) (⟨[(0, .agg [.int .i64 (OpOf.kind o), .int .i64 (OpOf.n o), .slice (U := U) .tree (OpOf.l o) .unk, .int .i64 (Edit.kind (OpOf.e o)), .int .i64 (Tree.kind (Edit.old (OpOf.e o))), .slice (U := U) .u64 (Tree.words (Edit.old (OpOf.e o))) .unk, .slice (U := U) .tree (Tree.kids (Edit.old (OpOf.e o))) .unk, .int .i64 (Tree.kind (Edit.new (OpOf.e o))), .slice (U := U) .u64 (Tree.words (Edit.new (OpOf.e o))) .unk, .slice (U := U) .tree (Tree.kids (Edit.new (OpOf.e o))) .unk, .slice (U := U) .wedit (Edit.words (OpOf.e o)) .unk, .slice (U := U) .kid (Edit.kids (OpOf.e o)) .unk, .int .i64 (Edit.list (OpOf.e o)), .slice (U := U) .op (Edit.ops (OpOf.e o)) .unk])], [], []⟩ : LSt U) Q
theorem vc163 (N : Nat) (o : Op) (Q : AExit → LSt U → Prop) (h : ∀ y_1, y_1 = ((OpOf.e o)) → ((((OpOf.kind o) : Int) == 1) = true → Q .ret (⟨[(2, .ptr (.loc 2) 0)], [((.loc 2), [.int .i64 2, .int .i64 (OpOf.n o), .slice (U := U) .tree (OpOf.l o) .unk, .int .i64 (Edit.kind (OpOf.e o)), .int .i64 (Tree.kind (Edit.old (OpOf.e o))), .slice (U := U) .u64 (Tree.words (Edit.old (OpOf.e o))) .unk, .slice (U := U) .tree (Tree.kids (Edit.old (OpOf.e o))) .unk, .int .i64 (Tree.kind (Edit.new (OpOf.e o))), .slice (U := U) .u64 (Tree.words (Edit.new (OpOf.e o))) .unk, .slice (U := U) .tree (Tree.kids (Edit.new (OpOf.e o))) .unk, .slice (U := U) .wedit (Edit.words (OpOf.e o)) .unk, .slice (U := U) .kid (Edit.kids (OpOf.e o)) .unk, .int .i64 (Edit.list (OpOf.e o)), .slice (U := U) .op (Edit.ops (OpOf.e o)) .unk])], []⟩ : LSt U)) ∧ ((((OpOf.kind o) : Int) == 1) = false → ((((OpOf.kind o) : Int) == 2) = true → Q .ret (⟨[(2, .ptr (.loc 2) 0)], [((.loc 2), [.int .i64 1, .int .i64 (OpOf.n o), .slice (U := U) .tree (OpOf.l o) .unk, .int .i64 (Edit.kind (OpOf.e o)), .int .i64 (Tree.kind (Edit.old (OpOf.e o))), .slice (U := U) .u64 (Tree.words (Edit.old (OpOf.e o))) .unk, .slice (U := U) .tree (Tree.kids (Edit.old (OpOf.e o))) .unk, .int .i64 (Tree.kind (Edit.new (OpOf.e o))), .slice (U := U) .u64 (Tree.words (Edit.new (OpOf.e o))) .unk, .slice (U := U) .tree (Tree.kids (Edit.new (OpOf.e o))) .unk, .slice (U := U) .wedit (Edit.words (OpOf.e o)) .unk, .slice (U := U) .kid (Edit.kids (OpOf.e o)) .unk, .int .i64 (Edit.list (OpOf.e o)), .slice (U := U) .op (Edit.ops (OpOf.e o)) .unk])], []⟩ : LSt U)) ∧ ((((OpOf.kind o) : Int) == 2) = false → ((((OpOf.kind o) : Int) == 3) = true → (pre118 (y_1, ())) ∧ (mu118 (y_1, ()) < N) ∧ (Q .ret (⟨[(2, .ptr (.loc 2) 0)], [((.loc 2), [.int .i64 (OpOf.kind o), .int .i64 (OpOf.n o), .slice (U := U) .tree (OpOf.l o) .unk, .int .i64 (Edit.kind (turnE y_1)), .int .i64 (Tree.kind (Edit.old (turnE y_1))), .slice (U := U) .u64 (Tree.words (Edit.old (turnE y_1))) .unk, .slice (U := U) .tree (Tree.kids (Edit.old (turnE y_1))) .unk, .int .i64 (Tree.kind (Edit.new (turnE y_1))), .slice (U := U) .u64 (Tree.words (Edit.new (turnE y_1))) .unk, .slice (U := U) .tree (Tree.kids (Edit.new (turnE y_1))) .unk, .slice (U := U) .wedit (Edit.words (turnE y_1)) .unk, .slice (U := U) .kid (Edit.kids (turnE y_1)) .unk, .int .i64 (Edit.list (turnE y_1)), .slice (U := U) .op (Edit.ops (turnE y_1)) .unk])], []⟩ : LSt U))) ∧ ((((OpOf.kind o) : Int) == 3) = false → Q .ret (⟨[(2, .ptr (.loc 2) 0)], [((.loc 2), [.int .i64 (OpOf.kind o), .int .i64 (OpOf.n o), .slice (U := U) .tree (OpOf.l o) .unk, .int .i64 (Edit.kind (OpOf.e o)), .int .i64 (Tree.kind (Edit.old (OpOf.e o))), .slice (U := U) .u64 (Tree.words (Edit.old (OpOf.e o))) .unk, .slice (U := U) .tree (Tree.kids (Edit.old (OpOf.e o))) .unk, .int .i64 (Tree.kind (Edit.new (OpOf.e o))), .slice (U := U) .u64 (Tree.words (Edit.new (OpOf.e o))) .unk, .slice (U := U) .tree (Tree.kids (Edit.new (OpOf.e o))) .unk, .slice (U := U) .wedit (Edit.words (OpOf.e o)) .unk, .slice (U := U) .kid (Edit.kids (OpOf.e o)) .unk, .int .i64 (Edit.list (OpOf.e o)), .slice (U := U) .op (Edit.ops (OpOf.e o)) .unk])], []⟩ : LSt U))))) :
    W163 N o Q := by
  have e_ : (W163 N o Q) = (let y_1 := (reEdit (OpOf.e o)); ((((((OpOf.kind o) == 1) = true → ((Q .ret (⟨[(2, .ptr (.loc 2) 0)], [((.loc 2), [.int .i64 2, .int .i64 (OpOf.n o), .slice (U := U) .tree (OpOf.l o) .unk, .int .i64 (Edit.kind (OpOf.e o)), .int .i64 (Tree.kind (Edit.old (OpOf.e o))), .slice (U := U) .u64 (Tree.words (Edit.old (OpOf.e o))) .unk, .slice (U := U) .tree (Tree.kids (Edit.old (OpOf.e o))) .unk, .int .i64 (Tree.kind (Edit.new (OpOf.e o))), .slice (U := U) .u64 (Tree.words (Edit.new (OpOf.e o))) .unk, .slice (U := U) .tree (Tree.kids (Edit.new (OpOf.e o))) .unk, .slice (U := U) .wedit (Edit.words (OpOf.e o)) .unk, .slice (U := U) .kid (Edit.kids (OpOf.e o)) .unk, .int .i64 (Edit.list (OpOf.e o)), .slice (U := U) .op (Edit.ops (OpOf.e o)) .unk])], []⟩ : LSt U)))) ∧ (((OpOf.kind o) == 1) = false → ((((OpOf.kind o) == 2) = true → ((Q .ret (⟨[(2, .ptr (.loc 2) 0)], [((.loc 2), [.int .i64 1, .int .i64 (OpOf.n o), .slice (U := U) .tree (OpOf.l o) .unk, .int .i64 (Edit.kind (OpOf.e o)), .int .i64 (Tree.kind (Edit.old (OpOf.e o))), .slice (U := U) .u64 (Tree.words (Edit.old (OpOf.e o))) .unk, .slice (U := U) .tree (Tree.kids (Edit.old (OpOf.e o))) .unk, .int .i64 (Tree.kind (Edit.new (OpOf.e o))), .slice (U := U) .u64 (Tree.words (Edit.new (OpOf.e o))) .unk, .slice (U := U) .tree (Tree.kids (Edit.new (OpOf.e o))) .unk, .slice (U := U) .wedit (Edit.words (OpOf.e o)) .unk, .slice (U := U) .kid (Edit.kids (OpOf.e o)) .unk, .int .i64 (Edit.list (OpOf.e o)), .slice (U := U) .op (Edit.ops (OpOf.e o)) .unk])], []⟩ : LSt U)))) ∧ (((OpOf.kind o) == 2) = false → ((((OpOf.kind o) == 3) = true → (pre118 (y_1, ())) ∧ (mu118 (y_1, ()) < N) ∧ ((Q .ret (⟨[(2, .ptr (.loc 2) 0)], [((.loc 2), [.int .i64 (OpOf.kind o), .int .i64 (OpOf.n o), .slice (U := U) .tree (OpOf.l o) .unk, .int .i64 (Edit.kind (turnE y_1)), .int .i64 (Tree.kind (Edit.old (turnE y_1))), .slice (U := U) .u64 (Tree.words (Edit.old (turnE y_1))) .unk, .slice (U := U) .tree (Tree.kids (Edit.old (turnE y_1))) .unk, .int .i64 (Tree.kind (Edit.new (turnE y_1))), .slice (U := U) .u64 (Tree.words (Edit.new (turnE y_1))) .unk, .slice (U := U) .tree (Tree.kids (Edit.new (turnE y_1))) .unk, .slice (U := U) .wedit (Edit.words (turnE y_1)) .unk, .slice (U := U) .kid (Edit.kids (turnE y_1)) .unk, .int .i64 (Edit.list (turnE y_1)), .slice (U := U) .op (Edit.ops (turnE y_1)) .unk])], []⟩ : LSt U)))) ∧ (((OpOf.kind o) == 3) = false → (Q .ret (⟨[(2, .ptr (.loc 2) 0)], [((.loc 2), [.int .i64 (OpOf.kind o), .int .i64 (OpOf.n o), .slice (U := U) .tree (OpOf.l o) .unk, .int .i64 (Edit.kind (OpOf.e o)), .int .i64 (Tree.kind (Edit.old (OpOf.e o))), .slice (U := U) .u64 (Tree.words (Edit.old (OpOf.e o))) .unk, .slice (U := U) .tree (Tree.kids (Edit.old (OpOf.e o))) .unk, .int .i64 (Tree.kind (Edit.new (OpOf.e o))), .slice (U := U) .u64 (Tree.words (Edit.new (OpOf.e o))) .unk, .slice (U := U) .tree (Tree.kids (Edit.new (OpOf.e o))) .unk, .slice (U := U) .wedit (Edit.words (OpOf.e o)) .unk, .slice (U := U) .kid (Edit.kids (OpOf.e o)) .unk, .int .i64 (Edit.list (OpOf.e o)), .slice (U := U) .op (Edit.ops (OpOf.e o)) .unk])], []⟩ : LSt U))))))))))) := by kernel_rfl
  exact e_.mpr (by intro y_1; have hh := h y_1 (reEdit_eq _); exact ⟨fun c_10 => (hh.1 c_10), fun c_10 => ⟨fun c_11 => ((hh.2 c_10).1 c_11), fun c_11 => ⟨fun c_12 => ⟨(((hh.2 c_10).2 c_11).1 c_12).1, (((hh.2 c_10).2 c_11).1 c_12).2.1, (((hh.2 c_10).2 c_11).1 c_12).2.2⟩, fun c_12 => (((hh.2 c_10).2 c_11).2 c_12)⟩⟩⟩)
def Body163 (N : Nat) (o : Op)  : Prop := awp cfg (know (know163 N)) (drawOk cfg (know (know163 N))) Try.f163.ntmps lv163 (cd Try.f163 []) (entry (args163.can (o, ())) []) (EndsQ cfg Try.f163.ntmps Try.f163.results.toList (res163 (o, ())) [])
abbrev HB163 : Prop := ∀ (N : Nat) (o : Op) (_ : Unit), pre163 (o, ()) → mu163 (o, ()) < N + 1 → Body163 N o
theorem make118_110 (ha : HB118) (hb : HB163) : Contract Try.prog cfg 118 spec118 ∧ Contract Try.prog cfg 163 spec163 :=
  contract_mut2 (μA := mu118) (μB := mu163) (l := []) cfgOk rfl (trivial) lv118 lv163 Try.func118 Try.func163 rfl rfl rfl rfl 1 1 (fun _ => rfl) (fun _ => rfl) (by decide) (by decide) (fun N ⟨e, _⟩ => ha N e ()) (fun N ⟨o, _⟩ => hb N o ())
end
end Go.AM.Ytpjenobkibfpcaa

namespace Go.AM.Ytpjenobkibfpcaa
open Go.AM Go.Proofs
theorem turnOp_at (o : Op) : turnOp o = if o.kind = 1 then ⟨2, o.n, o.l, o.e⟩ else if o.kind = 2 then ⟨1, o.n, o.l, o.e⟩ else if o.kind = 3 then ⟨o.kind, o.n, o.l, turnE o.e⟩ else ⟨o.kind, o.n, o.l, o.e⟩ := by cases o; rfl
theorem turnE_at (e : Edit) : turnE e = .mk e.kind e.new e.old (e.words.map turnW) (turnKs e.kids) e.list (turnOs e.ops) := by cases e; rfl
theorem turnKid_at (k : Kid) : turnKid k = ⟨k.at_, turnE k.e⟩ := by cases k; rfl
theorem b163 : HB163 := by
  intro N o _ hp hN
  simp only [pre163, mu163] at hp hN
  rw [massOp_e] at hp hN
  have hpos := massE_pos o.e
  refine vc163 _ _ _ ?_
  rintro y hy
  (simp only [vcS])
  refine ⟨fun h => ?_, fun h => ⟨fun h2 => ?_, fun h2 => ⟨fun h3 => ⟨by simp only [pre118, hy]; omega, by simp only [mu118, hy]; omega, ?_⟩, fun h3 => ?_⟩⟩⟩
  · have e : turnOp o = ⟨2, o.n, o.l, o.e⟩ := by rw [turnOp_at, if_pos h]
    simp only [res163, e]
    (repeat' (first | exact trivial | exact rfl | apply And.intro))
  · have e : turnOp o = ⟨1, o.n, o.l, o.e⟩ := by rw [turnOp_at, if_neg h, if_pos h2]
    simp only [res163, e]
    (repeat' (first | exact trivial | exact rfl | apply And.intro))
  · have e : turnOp o = ⟨o.kind, o.n, o.l, turnE o.e⟩ := by rw [turnOp_at, if_neg h, if_neg h2, if_pos h3]
    simp only [res163, e]
    rw [hy]
    (repeat' (first | exact trivial | exact rfl | apply And.intro))
  · have e : turnOp o = ⟨o.kind, o.n, o.l, o.e⟩ := by rw [turnOp_at, if_neg h, if_neg h2, if_neg h3]
    simp only [res163, e]
    (repeat' (first | exact trivial | exact rfl | apply And.intro))
theorem b118 : HB118 := by
  intro N e _ hp hN
  simp only [pre118, mu118] at hp hN
  have h1 := len_massE e
  have h2 := massKs_len e.kids
  have h3 := massOs_len e.ops
  have ha := turnE_at e
  refine vc118 _ _ _ ?_
  refine loop_rule (ι := Int × List WEdit) (fun s => head118_0 e s.1 s.2) (fun s => 0 ≤ s.1 ∧ s.1 ≤ e.words.length ∧ s.2.length = s.1 ∧ s.2 ++ (e.words.drop s.1.toNat).map turnW = e.words.map turnW) (fun s => ((e.words.length : Int) - s.1).toNat) (0, []) rfl ⟨by simp, by simp, by simp, by simp⟩ ?_
  rintro ⟨i, ws⟩ ⟨g1, g2, g3, g4⟩
  dsimp only at g1 g2 g3 g4
  refine vc118_l0 _ _ _ _ _ _ ?_
  (simp only [vcS])
  refine ⟨fun hi => ?_, fun hi => ?_⟩
  · rw [dropI g1 hi (WEdit.mk 0 0 0 0)] at g4
    simp only [List.map_cons] at g4
    refine ⟨⟨g1, hi⟩, by simp; omega, by unfold InR; omega, (i + 1, ws ++ [turnW (e.words.getD i.toNat (WEdit.mk 0 0 0 0))]), rfl, ⟨by dsimp only; omega, by dsimp only; omega, by simp; omega, ?_⟩, by dsimp only; omega⟩
    simp only [List.append_assoc, List.cons_append, List.nil_append]
    exact g4
  · rw [List.drop_of_length_le (by omega)] at g4
    simp only [List.map_nil, List.append_nil] at g4
    refine loop_rule (ι := Int × List Kid) (fun s => head118_1 e ws s.1 s.2) (fun s => 0 ≤ s.1 ∧ s.1 ≤ e.kids.length ∧ s.2.length = s.1 ∧ s.2 ++ turnKs (e.kids.drop s.1.toNat) = turnKs e.kids) (fun s => ((e.kids.length : Int) - s.1).toNat) (0, []) rfl ⟨by simp, by simp, by simp, by simp⟩ ?_
    rintro ⟨j, ks⟩ ⟨f1, f2, f3, f4⟩
    dsimp only at f1 f2 f3 f4
    refine vc118_l1 _ _ _ _ _ _ _ ?_
    rintro y1 hy1 y2 hy2 y3 hy3
    (simp only [vcS])
    refine ⟨fun hj => ?_, fun hj => ?_⟩
    · have hm := massKs_mem (mem_getD (l := e.kids) (i := j.toNat) (by omega) (KidOf.mk 0 Edit.nil))
      rw [dropI f1 hj (KidOf.mk 0 Edit.nil)] at f4
      rw [← hy1] at f4 hm
      simp only [turnKs, turnKid_at] at f4
      rw [← hy2] at f4 hm
      rw [← hy3] at f4
      refine ⟨⟨f1, hj⟩, by simp only [pre118]; omega, by simp only [mu118]; omega, by simp; omega, by unfold InR; omega, (j + 1, ks ++ [⟨y1.at_, y3⟩]), rfl, ⟨by dsimp only; omega, by dsimp only; omega, by simp; omega, ?_⟩, by dsimp only; omega⟩
      simp only [List.append_assoc, List.cons_append, List.nil_append]
      exact f4
    · rw [List.drop_of_length_le (by omega)] at f4
      simp only [turnKs, List.append_nil] at f4
      refine loop_rule (ι := Int × List Op) (fun s => head118_2 e ws ks s.1 s.2) (fun s => 0 ≤ s.1 ∧ s.1 ≤ e.ops.length ∧ s.2.length = s.1 ∧ s.2 ++ turnOs (e.ops.drop s.1.toNat) = turnOs e.ops) (fun s => ((e.ops.length : Int) - s.1).toNat) (0, []) rfl ⟨by simp, by simp, by simp, by simp⟩ ?_
      rintro ⟨k, os⟩ ⟨d1, d2, d3, d4⟩
      dsimp only at d1 d2 d3 d4
      refine vc118_l2 _ _ _ _ _ _ _ _ ?_
      rintro z1 hz1 z2 hz2 z3 hz3
      (simp only [vcS])
      refine ⟨fun hj => ?_, fun hj => ?_⟩
      · have hm := massOs_mem (mem_getD (l := e.ops) (i := k.toNat) (by omega) Op.nil)
        rw [dropI d1 hj Op.nil] at d4
        rw [← hz1, ← hz2] at d4 hm
        simp only [turnOs] at d4
        rw [← hz3] at d4
        refine ⟨⟨d1, hj⟩, by simp only [pre163]; omega, by simp only [mu163]; omega, by simp; omega, by unfold InR; omega, (k + 1, os ++ [z3]), rfl, ⟨by dsimp only; omega, by dsimp only; omega, by simp; omega, ?_⟩, by dsimp only; omega⟩
        simp only [List.append_assoc, List.cons_append, List.nil_append]
        exact d4
      · rw [List.drop_of_length_le (by omega)] at d4
        simp only [turnOs, List.append_nil] at d4
        rw [g4, f4, d4]
        simp only [res118, ha]
        (repeat' (first | exact trivial | exact rfl | apply And.intro))
theorem c118_110 : Contract Try.prog cfg 118 spec118 ∧ Contract Try.prog cfg 163 spec163 := make118_110 b118 b163
end Go.AM.Ytpjenobkibfpcaa

namespace Go.AM.Ytpjenobkibfpcaa
open Go.AM Go.Proofs
theorem keepO_cases : ∀ (l : List Op) (n : Int), keepO l n = l ++ [⟨0, n, [], Edit.nil⟩] ∨ ∃ a o, l = a ++ [o] ∧ o.kind = 0 ∧ keepO l n = a ++ [⟨o.kind, o.n + n, o.l, o.e⟩]
  | [], n => Or.inl rfl
  | [o], n => by
    by_cases h : o.kind = 0
    · exact Or.inr ⟨[], o, rfl, h, by simp [keepO, h]⟩
    · exact Or.inl (by simp [keepO, h])
  | o :: p :: r, n => by
    rcases keepO_cases (p :: r) n with h | ⟨a, q, h1, h2, h3⟩
    · exact Or.inl (by simp only [keepO, h, List.cons_append])
    · exact Or.inr ⟨o :: a, q, by rw [h1]; rfl, h2, by simp only [keepO, h3, List.cons_append]⟩
def W0 : Wst := ⟨[], [], []⟩
theorem normsT_append (a b : List Tree) : normsT (a ++ b) = normsT a ++ normsT b := by simp [normsT]
end Go.AM.Ytpjenobkibfpcaa

namespace Go.AM
theorem noneT_is {t : Tree} (h : noneT t = true) : t = Tree.nil := by
  obtain ⟨k, w, ks⟩ := t
  simp only [noneT, decide_eq_true_eq] at h
  obtain ⟨h1, h2, h3⟩ := h
  have h1 : k = 0 := h1
  rw [h1, List.eq_nil_of_length_eq_zero (l := w) h2, List.eq_nil_of_length_eq_zero (l := ks) h3]
  rfl
theorem sameE_is {e : Edit} (h : sameE e = true) : e = Edit.nil := by
  obtain ⟨k, o, n, w, ks, l, os⟩ := e
  simp only [sameE, Bool.and_eq_true, decide_eq_true_eq] at h
  obtain ⟨⟨⟨h1, h2⟩, h3⟩, h4, h5, h6, h7⟩ := h
  have h1 : k = 0 := h1
  have h7 : l = 0 := h7
  rw [h1, h7, noneT_is (t := o) h2, noneT_is (t := n) h3, List.eq_nil_of_length_eq_zero (l := w) h4, List.eq_nil_of_length_eq_zero (l := ks) h5, List.eq_nil_of_length_eq_zero (l := os) h6]
  rfl
structure RightE (e : Edit) (d : Int) : Prop where
  d0 : d ≠ 0
  kind : 0 ≤ e.kind ∧ e.kind ≤ 3
  none : e.kind ≠ 1 → e.old = Tree.nil ∧ e.new = Tree.nil
  words0 : e.kind ≠ 2 → e.words = [] ∧ e.kids = []
  ops0 : e.kind ≠ 3 → e.list = 0 ∧ e.ops = []
  rep : e.kind = 1 → rightT e.old (dT d) = true ∧ rightT e.new (dT d) = true ∧ e.old.kind ≠ 10 ∧ e.new.kind ≠ 10
  words : wordsOk (-1) e.words = true
  kids : rightKs (-1) e.kids (d - 1) = true
  list : e.kind = 3 → 2 ≤ e.list ∧ e.list ≤ 9
  ops : rightOs e.list e.ops (d - 1) = true
  len : lenA e.ops 0 < 1048576 ∧ lenB e.ops 0 < 1048576
theorem rightE_all {e : Edit} {d : Int} (h : rightE e d = true) : RightE e d := by
  obtain ⟨k, o, n, w, ks, l, os⟩ := e
  rw [rightE] at h
  split at h
  · cases h
  · rename_i a
    split at h
    · cases h
    · rename_i b
      have b1 : k ≠ 1 → o = Tree.nil ∧ n = Tree.nil := by
        intro hk
        by_cases x : noneT o = true ∧ noneT n = true
        · exact ⟨noneT_is x.1, noneT_is x.2⟩
        · exact absurd (.inl ⟨hk, x⟩) b
      have b2 : k ≠ 2 → w = [] ∧ ks = [] := by
        intro hk
        by_cases x : w.length = 0 ∧ ks.length = 0
        · exact ⟨List.eq_nil_of_length_eq_zero x.1, List.eq_nil_of_length_eq_zero x.2⟩
        · exact absurd (.inr (.inl ⟨hk, x⟩)) b
      have b3 : k ≠ 3 → l = 0 ∧ os = [] := by
        intro hk
        by_cases x : l ≠ 0 ∨ os.length ≠ 0
        · exact absurd (.inr (.inr ⟨hk, x⟩)) b
        · exact ⟨by omega, List.eq_nil_of_length_eq_zero (by omega)⟩
      split at h
      · rename_i c
        simp only [Bool.and_eq_true, decide_eq_true_eq] at h
        obtain ⟨⟨h1, h2⟩, h3, h4⟩ := h
        have c2 := b2 (by omega)
        have c3 := b3 (by omega)
        obtain ⟨rfl, rfl⟩ := c2
        obtain ⟨rfl, rfl⟩ := c3
        exact ⟨by omega, ⟨by show 0 ≤ k; omega, by show k ≤ 3; omega⟩, b1, b2, b3, fun _ => ⟨h1, h2, h3, h4⟩, rfl, rfl, fun e => by have e : k = 3 := e; omega, rfl, by show lenA [] 0 < _ ∧ lenB [] 0 < _; simp [lenA, lenB]⟩
      · rename_i c
        simp only [Bool.and_eq_true, decide_eq_true_eq] at h
        obtain ⟨⟨⟨⟨h1, h2⟩, h3⟩, h4⟩, h5⟩ := h
        exact ⟨by omega, ⟨by show 0 ≤ k; omega, by show k ≤ 3; omega⟩, b1, b2, b3, fun e => absurd e c, h1, h2, fun e => by have e : k = 3 := e; show 2 ≤ l ∧ l ≤ 9; omega, h4, h5⟩
theorem rightKs_all : ∀ {ks : List Kid} {last d : Int}, rightKs last ks d = true → ∀ k ∈ ks, (last < k.at_ ∧ k.at_ ≤ 65534 ∧ k.e.kind ≠ 0) ∧ rightE k.e d = true
  | [], _, _, _, _, hk => by cases hk
  | ⟨a, e⟩ :: r, last, d, h, k, hk => by
    simp only [rightKs, rightKid, Bool.and_eq_true, decide_eq_true_eq] at h
    obtain ⟨⟨h1, h2⟩, h3⟩ := h
    rcases List.mem_cons.1 hk with rfl | hk
    · exact ⟨h1, h2⟩
    · have := rightKs_all h3 k hk
      have h1 : last < a ∧ a ≤ 65534 ∧ e.kind ≠ 0 := h1
      have h4 : a < k.at_ := this.1.1
      exact ⟨⟨by omega, this.1.2⟩, this.2⟩
theorem rightOs_mem {list : Int} : ∀ {os : List Op} {d : Int}, rightOs list os d = true → ∀ o ∈ os, rightOp list o d = true
  | [], _, _, _, ho => by cases ho
  | a :: r, d, h, o, ho => by
    simp only [rightOs, Bool.and_eq_true] at h
    rcases List.mem_cons.1 ho with rfl | ho
    · exact h.1
    · exact rightOs_mem h.2 o ho
theorem wordsOk_all : ∀ {ws : List WEdit} {last : Int}, wordsOk last ws = true → ∀ w ∈ ws, last < w.at_ ∧ w.at_ ≤ 65534 ∧ w.mask ≠ 0 ∧ withinW w.old w.mask = true ∧ withinW w.new w.mask = true
  | [], _, _, _, hw => by cases hw
  | a :: r, last, h, w, hw => by
    simp only [wordsOk, Bool.and_eq_true, decide_eq_true_eq] at h
    obtain ⟨⟨⟨h1, h2⟩, h3⟩, h4⟩ := h
    rcases List.mem_cons.1 hw with rfl | hw
    · exact ⟨h1.1, h1.2.1, h1.2.2, h2, h3⟩
    · have := wordsOk_all h4 w hw
      exact ⟨by omega, this.2⟩
inductive RightOp (list : Int) (d : Int) : Op → Prop
  | keep (n : Int) : 1 ≤ n → n ≤ 1048576 → RightOp list d ⟨0, n, [], Edit.nil⟩
  | gone (l : List Tree) : treesG (dT d) list l = true → 0 < l.length → RightOp list d ⟨1, 0, l, Edit.nil⟩
  | come (l : List Tree) : treesG (dT d) list l = true → 0 < l.length → RightOp list d ⟨2, 0, l, Edit.nil⟩
  | into (e : Edit) : rightE e d = true → e.kind ≠ 0 → 7 < list → (list = 8 ∨ e.kind = 2 ∨ e.kind = 1 ∧ e.old.kind = 1 ∧ e.new.kind = 1) → RightOp list d ⟨3, 0, [], e⟩
theorem rightOp_all {list : Int} {o : Op} {d : Int} (h : rightOp list o d = true) : RightOp list d o := by
  obtain ⟨k, n, l, e⟩ := o
  rw [rightOp] at h
  split at h
  · rename_i hk
    simp only [Bool.and_eq_true, decide_eq_true_eq] at h
    obtain ⟨⟨h1, h2, h3⟩, h4⟩ := h
    rw [hk, sameE_is h4, List.eq_nil_of_length_eq_zero h3]
    exact .keep n h1 h2
  · rename_i h0
    split at h
    · cases h
    · rename_i h1
      have hn : n = 0 := by omega
      subst hn
      split at h
      · rename_i h2
        simp only [Bool.and_eq_true, decide_eq_true_eq] at h
        obtain ⟨⟨h3, h4⟩, h5⟩ := h
        rw [sameE_is h5]
        by_cases hk : k = 1
        · rw [hk]; exact .gone l h3 h4
        · rw [show k = 2 by omega]; exact .come l h3 h4
      · rename_i h2
        simp only [Bool.and_eq_true, decide_eq_true_eq] at h
        obtain ⟨⟨⟨h3, h4, h5⟩, h6⟩, h7⟩ := h
        rw [show k = 3 by omega, List.eq_nil_of_length_eq_zero h3]
        exact .into e h6 h4 h5 h7
theorem right_desc {l d : Int} {o : Op} (h : rightOp l o d = true) (hk : o.kind = 3) : rightE o.e d = true := by
  have r := rightOp_all h
  cases r with
  | into e h1 => exact h1
  | keep | gone | come => exact absurd hk (by simp)
end Go.AM
