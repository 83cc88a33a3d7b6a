import Derived.Test.YthokdjgpdonhgaaQD4
import Derived.Test.YthokdjgpdonhgaaQBg
set_option linter.unusedSimpArgs false
set_option linter.unusedVariables false
namespace Go.AM

def More (r r' : Tree × Int × Int) (k : Int) : Prop := r.2.2 = 0 → r' = (r.1, r.2.1 + k, 0)
def MoreM (m m' : XRef → Int → Tree × Int × Int) (k : Int) : Prop := ∀ x left, More (m x left) (m' x (left + k)) k

theorem loopM_more {f g : Int → Int → Tree × Int × Int} {k : Int} (h : ∀ i left, More (f i left) (g i (left + k)) k) : ∀ (n : Nat) (i left : Int) (acc : List Tree), (loopM f n i left acc).2.2 = 0 →
    loopM g n i (left + k) acc = ((loopM f n i left acc).1, (loopM f n i left acc).2.1 + k, 0)
  | 0, _, _, _, _ => rfl
  | n + 1, i, left, acc, h0 => by
    simp only [loopM] at h0 ⊢
    by_cases he : (f i left).2.2 = 0
    · rw [if_pos he] at h0 ⊢
      have hg := h i left he
      rw [hg]
      simp only
      rw [if_pos trivial]
      exact loopM_more h n (i + 1) (f i left).2.1 (acc ++ [(f i left).1]) h0
    · rw [if_neg he] at h0
      exact absurd h0 he

theorem kidsM_more {l : List (List Int)} {m m' : XRef → Int → Tree × Int × Int} {k : Int} (h : MoreM m m' k) (x : XRef) (left : Int) : More (kidsM l m x left) (kidsM l m' x (left + k)) k := by
  intro h0
  unfold kidsM at h0 ⊢
  have := loopM_more (f := fun j left => if (kidX l x j).2 = 0 then m (kidX l x j).1 left else (Tree.nil, left, (kidX l x j).2)) (g := fun j left => if (kidX l x j).2 = 0 then m' (kidX l x j).1 left else (Tree.nil, left, (kidX l x j).2)) (k := k) (by
    intro i left hi
    by_cases he : (kidX l x i).2 = 0
    · simp only [he, if_true] at hi ⊢
      exact h _ _ hi
    · simp only [he, if_false] at hi) x.ptrs.toNat 0 left [] h0
  rw [this]

theorem kidM_more {l : List (List Int)} {m m' n n' : XRef → Int → Tree × Int × Int} {k : Int} (h : MoreM m m' k) (h' : MoreM n n' k) (x : XRef) (i left : Int) : More (kidM l m n x i left) (kidM l m' n' x i (left + k)) k := by
  intro h0
  unfold kidM at h0 ⊢
  by_cases he : (kidX l x i).2 = 0
  · rw [if_pos he] at h0 ⊢
    rw [if_pos he]
    by_cases h9 : x.kind = 9
    · rw [if_pos h9] at h0 ⊢
      rw [if_pos h9]
      exact kidsM_more h' _ _ h0
    · rw [if_neg h9] at h0 ⊢
      rw [if_neg h9]
      by_cases h1 : x.kind = 1 ∨ x.kind = 8
      · rw [if_pos h1] at h0 ⊢
        rw [if_pos h1]
        exact h _ _ h0
      · rw [if_neg h1, if_neg h1]
  · rw [if_neg he] at h0
    exact absurd h0 he

theorem stepM_more {l : List (List Int)} {d d' : Nat} (hd : d ≤ d') {m m' n n' : XRef → Int → Tree × Int × Int} {k : Int} (hk : 0 ≤ k) (h : MoreM m m' k) (h' : MoreM n n' k) : MoreM (stepM l d m n) (stepM l d' m' n') k := by
  intro x left h0
  unfold stepM at h0 ⊢
  by_cases h1 : x.kind = 0
  · rw [if_pos h1, if_pos h1]
  · rw [if_neg h1] at h0 ⊢
    rw [if_neg h1]
    by_cases h2 : d = 0 ∨ (x.kind = 9 ∧ 0 < x.count ∧ d < 2) ∨ left < ownX x
    · rw [if_pos h2] at h0; cases h0
    · rw [if_neg h2] at h0 ⊢
      rw [if_neg (show ¬(d' = 0 ∨ (x.kind = 9 ∧ 0 < x.count ∧ d' < 2) ∨ left + k < ownX x) by
        rintro (q | q | q)
        · exact h2 (.inl (by omega))
        · exact h2 (.inr (.inl ⟨q.1, q.2.1, by omega⟩))
        · exact h2 (.inr (.inr (by omega))))]
      have := loopM_more (k := k) (fun i left => kidM_more (l := l) h h' x i left) (kidsX x).toNat 0 (left - ownX x) [] h0
      rw [show left + k - ownX x = left - ownX x + k by omega, this]

theorem none_more {m' : XRef → Int → Tree × Int × Int} {k : Int} : MoreM (fun _ left => (Tree.nil, left, 3)) m' k := fun _ _ h => by cases h

theorem mean_more {l : List (List Int)} {k : Int} (hk : 0 ≤ k) : ∀ (d d' : Nat), d ≤ d' → MoreM (mean l d) (mean l d') k := by
  intro d
  induction d using Nat.strongRecOn with
  | ind d ih =>
    intro d' hd
    match d, d', hd with
    | 0, 0, hd => exact stepM_more hd hk none_more none_more
    | 0, 1, hd => exact stepM_more hd hk none_more none_more
    | 0, d' + 2, hd => exact stepM_more hd hk none_more none_more
    | 1, 1, hd => exact stepM_more hd hk (ih 0 (by omega) 0 (by omega)) none_more
    | 1, d' + 2, hd => exact stepM_more hd hk (ih 0 (by omega) (d' + 1) (by omega)) none_more
    | d + 2, d' + 2, hd => exact stepM_more hd hk (ih (d + 1) (by omega) (d' + 1) (by omega)) (ih d (by omega) d' (by omega))

end Go.AM

namespace Go.AM.Ythokdjgpdonhgaa
open Go.AM

def valX (l : List (List Int)) (x : XRef) : Tree := (mean l 64 x 65536).1
def valT (r : Ref) : Tree := valX (segO r.a) (unX r)
def valE (r : Ref) : Prop := (mean (segO r.a) 64 (unX r) 65536).2.2 = 0

theorem val_of {l : List (List Int)} {d : Nat} {x : XRef} {left : Int} (hd : d ≤ 64) (hl : left ≤ 65536) (h : (mean l d x left).2.2 = 0) : (mean l 64 x 65536).2.2 = 0 ∧ (mean l d x left).1 = valX l x := by
  have := mean_more (l := l) (k := 65536 - left) (by omega) d 64 hd x left h
  rw [show left + (65536 - left) = 65536 by omega] at this
  unfold valX
  rw [this]
  exact ⟨rfl, rfl⟩

theorem loopM_get {f : Int → Int → Tree × Int × Int} {Q : Int → Int → Prop} (hf : ∀ i left, Q i left → (f i left).2.2 = 0 → Q (i + 1) (f i left).2.1) :
    ∀ (n : Nat) (i left : Int) (acc : List Tree), Q i left → (loopM f n i left acc).2.2 = 0 →
      ∃ ks, (loopM f n i left acc).1 = acc ++ ks ∧ ks.length = n ∧ ∀ j : Nat, j < n → ∃ le, Q (i + j) le ∧ (f (i + j) le).2.2 = 0 ∧ ks.getD j Tree.nil = (f (i + j) le).1
  | 0, i, left, acc, _, _ => ⟨[], by simp [loopM]⟩
  | n + 1, i, left, acc, h0, he => by
    simp only [loopM] at he ⊢
    by_cases h1 : (f i left).2.2 = 0
    · rw [if_pos h1] at he ⊢
      obtain ⟨ks, q1, q2, q3⟩ := loopM_get hf n (i + 1) (f i left).2.1 (acc ++ [(f i left).1]) (hf i left h0 h1) he
      refine ⟨(f i left).1 :: ks, by rw [q1]; simp, by simp [q2], ?_⟩
      rintro (_ | j) hj
      · exact ⟨left, by simpa using h0, by simpa using h1, by simp⟩
      · obtain ⟨le, a1, a2, a3⟩ := q3 j (by omega)
        rw [show i + 1 + (j : Int) = i + ((j + 1 : Nat) : Int) by omega] at a1 a2 a3
        exact ⟨le, a1, a2, by rw [List.getD_cons_succ]; exact a3⟩
    · rw [if_neg h1] at he
      exact absurd he h1

theorem valX_zero {l : List (List Int)} {x : XRef} (h : x.kind = 0) : valX l x = ⟨0, wordsX l x, []⟩ ∧ (mean l 64 x 65536).2.2 = 0 := by
  unfold valX
  rw [mean_eq (by omega)]
  unfold stepM
  rw [if_pos h]
  exact ⟨rfl, rfl⟩

theorem val_kids {l : List (List Int)} (hl : okSeg l) {x : XRef} (hx : OkX l x) (h : (mean l 64 x 65536).2.2 = 0) :
    ∃ ks, valX l x = ⟨x.kind, wordsX l x, ks⟩ ∧ (ks.length : Int) = kidsX x ∧ ∀ i : Int, 0 ≤ i → i < kidsX x → (kidX l x i).2 = 0 ∧ (mean l 64 (kidX l x i).1 65536).2.2 = 0 ∧ ks.getD i.toNat Tree.nil = valX l (kidX l x i).1 := by
  have hkx := kidsX_le hx
  by_cases h0 : x.kind = 0
  · refine ⟨[], by rw [(valX_zero h0).1, h0], ?_, ?_⟩
    · have := hx.null h0
      rw [this]; rfl
    · intro i h1 h2
      rw [hx.null h0] at h2
      exact absurd h2 (by show ¬ i < 0; omega)
  have hdt := hx.data
  have hpt := hx.ptrs
  have hcc := hx.count
  have hown := ownX_pos hx
  unfold valX
  rw [mean_eq (by omega)] at h ⊢
  unfold stepM at h ⊢
  rw [if_neg h0] at h ⊢
  by_cases hq : (64 : Nat) = 0 ∨ (x.kind = 9 ∧ 0 < x.count ∧ 64 < 2) ∨ (65536 : Int) < ownX x
  · rw [if_pos hq] at h; cases h
  · rw [if_neg hq] at h ⊢
    obtain ⟨ks, q1, q2, q3⟩ := loopM_get (Q := fun _ left => 0 ≤ left ∧ left ≤ 65536 - ownX x) (f := kidM l (mean l 63) (mean l 62) x) (fun i left hQ he => by
      have hf := kidM_fine hl (mean_fine hl 63) (mean_fine hl 62) hx i left hQ.1
      exact ⟨hf.1, Int.le_trans hf.2 hQ.2⟩) (kidsX x).toNat 0 (65536 - ownX x) [] ⟨by omega, Int.le_refl _⟩ h
    refine ⟨ks, by dsimp only; rw [q1, List.nil_append], by rw [q2, Int.toNat_of_nonneg hkx.1], ?_⟩
    intro i hi hn
    obtain ⟨le, a1, a2, a3⟩ := q3 i.toNat (by omega)
    rw [show (0 : Int) + (i.toNat : Int) = i by omega] at a2 a3
    rw [a3]
    unfold kidM at a2 ⊢
    by_cases hk2 : (kidX l x i).2 = 0
    · rw [if_pos hk2] at a2 ⊢
      refine ⟨hk2, ?_⟩
      by_cases h9 : x.kind = 9
      · rw [if_pos h9] at a2 ⊢
        have hkx' := okX_kid hl hx i
        have e1 : (kidX l x i).1.kind = 1 ∧ (kidX l x i).1.data = x.data ∧ (kidX l x i).1.ptrs = x.ptrs := by
          have e : kidsX x = x.count := by unfold kidsX; rw [if_neg (by omega)]
          unfold kidX
          rw [if_neg (by omega), if_neg (by omega), if_neg (by omega), if_pos h9]
          exact ⟨rfl, rfl, rfl⟩
        generalize (kidX l x i).1 = z at a2 e1 hkx' ⊢
        have hoz : ownX z = 1 + x.data + x.ptrs := by unfold ownX; rw [if_pos e1.1, e1.2.1, e1.2.2]
        have hox : 1 + x.data + x.ptrs < ownX x := by
          have e : kidsX x = x.count := by unfold kidsX; rw [if_neg (by omega)]
          unfold ownX
          rw [if_neg (by omega), if_pos h9]
          have : 1 * (1 + x.data + x.ptrs) ≤ x.count * (1 + x.data + x.ptrs) := Int.mul_le_mul_of_nonneg_right (by omega) (by omega)
          omega
        have key : mean l 63 z (le + ownX z) = kidsM l (mean l 62) z le := by
          rw [mean_eq (by omega)]
          unfold stepM kidsM
          rw [if_neg (show ¬ z.kind = 0 by omega), if_neg (show ¬((63 : Nat) = 0 ∨ (z.kind = 9 ∧ 0 < z.count ∧ (63 : Nat) < 2) ∨ le + ownX z < ownX z) by omega), show le + ownX z - ownX z = le by omega, show kidsX z = z.ptrs by unfold kidsX; rw [if_pos e1.1]]
          have ef : kidM l (mean l 62) (mean l 61) z = fun j left => if (kidX l z j).2 = 0 then mean l 62 (kidX l z j).1 left else (Tree.nil, left, (kidX l z j).2) := by
            funext j left
            unfold kidM
            rw [if_neg (show ¬ z.kind = 9 by omega), if_pos (show z.kind = 1 ∨ z.kind = 8 from .inl e1.1)]
          rw [e1.1, show (63 : Nat) - 1 = 62 from rfl, show (63 : Nat) - 2 = 61 from rfl, ef]
        rw [← key] at a2 ⊢
        exact val_of (by omega) (by omega) a2
      · rw [if_neg h9] at a2 ⊢
        by_cases h18 : x.kind = 1 ∨ x.kind = 8
        · rw [if_pos h18] at a2 ⊢
          exact val_of (by omega) (by omega) a2
        · rw [if_neg h18]
          have e : kidsX x = x.count := by unfold kidsX; rw [if_neg (by omega)]
          have ek : (kidX l x i).1.kind = 10 := by
            unfold kidX
            rw [if_neg (by omega), if_neg (by omega), if_neg (by omega), if_neg (by omega)]
          have hz := okX_kid hl hx i
          generalize (kidX l x i).1 = z at ek hz ⊢
          have h10 := hz.zero (.inr ek)
          have hkz : kidsX z = 0 := by unfold kidsX; rw [if_neg (by omega)]; exact h10
          have ho : ownX z = 1 := by unfold ownX; rw [if_neg (by omega), if_neg (by omega), h10]; rfl
          rw [mean_eq (by omega)]
          unfold stepM
          rw [if_neg (show ¬ z.kind = 0 by omega), if_neg (show ¬((64 : Nat) = 0 ∨ (z.kind = 9 ∧ 0 < z.count ∧ (64 : Nat) < 2) ∨ (65536 : Int) < ownX z) by omega), hkz]
          exact ⟨rfl, rfl⟩
    · rw [if_neg hk2] at a2
      exact absurd a2 hk2

theorem val_lift {a : Option Arena} {x : XRef} (hx : OkX (segO a) x) : valT (liftX a x) = valX (segO a) x ∧ ((mean (segO a) 64 x 65536).2.2 = 0 → valE (liftX a x)) := by
  unfold valT valE
  rw [unX_lift hx]
  by_cases h0 : x.kind = 0
  · have e := hx.null h0
    subst e
    exact ⟨rfl, fun _ => (valX_zero rfl).2⟩
  · rw [a_lift h0]
    exact ⟨rfl, id⟩

theorem val_good {r : Ref} (h : okR r) (he : valE r) : rightT (valT r) 64 = true ∧ rng (valT r) ∧ mass (valT r) ≤ 140000 := by
  obtain ⟨g1, g2, g3, g4, g5⟩ := mean_good h.1 64 (unX r) 65536 h.2 (by omega) (by omega) he
  have hm := mass_weight _ _ g2
  refine ⟨g2, g3, ?_⟩
  show mass (mean (segO r.a) 64 (unX r) 65536).1 ≤ 140000
  split at hm <;> omega

theorem unf_root {l : List (List Int)} {x : Limits} (h : (unfV l x).2.2 = 0) : (refAt l 0 0).2 = 0 ∧ (mean l 64 (refAt l 0 0).1 65536).2.2 = 0 ∧ (unfV l x).1 = valX l (refAt l 0 0).1 := by
  have hd := clamp_le x.depth 64 (by omega)
  have hw := clamp_le x.weight 65536 (by omega)
  rw [show clampI x.depth 64 = (limV x).depth from rfl] at hd
  rw [show clampI x.weight 65536 = (limV x).weight from rfl] at hw
  unfold unfV at h ⊢
  by_cases h1 : (refAt l 0 0).2 = 0
  · rw [if_pos h1] at h ⊢
    by_cases h2 : (mean l (limV x).depth.toNat (refAt l 0 0).1 (limV x).weight).2.2 = 0
    · rw [if_pos h2] at h ⊢
      have := val_of (by omega) hw.2 h2
      exact ⟨h1, this⟩
    · rw [if_neg h2] at h; exact absurd h h2
  · rw [if_neg h1] at h; exact absurd h h1

theorem unf_nil {l : List (List Int)} {x : Limits} (h : (unfV l x).2.2 ≠ 0) : (unfV l x).1 = Tree.nil := by
  unfold unfV at h ⊢
  by_cases h1 : (refAt l 0 0).2 = 0
  · rw [if_pos h1] at h ⊢
    by_cases h2 : (mean l (limV x).depth.toNat (refAt l 0 0).1 (limV x).weight).2.2 = 0
    · rw [if_pos h2] at h; exact absurd rfl h
    · rw [if_neg h2]
  · rw [if_neg h1]

end Go.AM.Ythokdjgpdonhgaa

namespace Go.AM.Ythokdjgpdonhgaa
open Go.AM Go.Proofs

def args52 : ArgL (Ref × Unit) := (.cons (aEl .ref) .nil)
def pre52 (a : Ref × Unit) : Prop := okR a.1 ∧ valE a.1
def mu52 (a : Ref × Unit) : Nat := mass (valT a.1)
noncomputable def res52 (a : Ref × Unit) : V U := .tup [(true, [.int .i64 (Tree.kind (valT a.1)), .slice (U := U) .u64 (Tree.words (valT a.1)) .unk, .slice (U := U) .tree (Tree.kids (valT a.1)) .unk]), (false, [.int .i64 0])]
noncomputable def spec52 : Fs U := fs args52 (fun a => [pre52 a]) res52

def args48 : ArgL (Option Arena × Limits × Unit) := (.cons (aPo .arena) (.cons (aEl .limits) .nil))
def pre48 (a : Option Arena × Limits × Unit) : Prop := okA a.1
noncomputable def res48 (a : Option Arena × Limits × Unit) : V U := .tup [(true, [.int .i64 (Tree.kind (normT (unfV (segO a.1) a.2.1).1)), .slice (U := U) .u64 (Tree.words (normT (unfV (segO a.1) a.2.1).1)) .unk, .slice (U := U) .tree (Tree.kids (normT (unfV (segO a.1) a.2.1).1)) .unk]), (false, [.int .i64 ((unfV (segO a.1) a.2.1).2.2)])]
noncomputable def spec48 : Fs U := fs args48 (fun a => [pre48 a]) res48

def args51 : ArgL (Unit) := .nil
def pre51 (a : Unit) : Prop := True
noncomputable def res51 (a : Unit) : V U := .c (.bool true)
noncomputable def spec51 : Fs U := fs args51 (fun a => [pre51 a]) res51

def args13 : ArgL (List (List Int) × Limits × Unit) := (.cons (aSl .words) (.cons (aEl .limits) .nil))
def pre13 (a : List (List Int) × Limits × Unit) : Prop := okSeg a.1
noncomputable def res13 (a : List (List Int) × Limits × Unit) : V U := .c (.bool true)
noncomputable def spec13 : Fs U := fs args13 (fun a => [pre13 a]) res13

noncomputable def know52 (N : Nat) : List (FuncId × Fs U) := (52, fs args52 (fun a => [pre52 a, mu52 a < N]) res52) :: [(22, spec22), (59, spec59), (25, spec25), (23, spec23), (24, spec24)]
def lv52 : Lives U := fun i => match i with
  | 0 => ([(1, []), (2, [])], [((.loc 1), []), ((.loc 2), [])])
  | 1 => ([(1, []), (2, []), (4, [])], [((.loc 1), []), ((.loc 2), []), ((.loc 4), [])])
  | 2 => ([(1, []), (2, []), (4, []), (14, []), (15, [])], [((.loc 1), []), ((.loc 2), []), ((.loc 4), [.any, .own .u64])])
  | 3 => ([(1, []), (2, []), (4, []), (14, []), (15, []), (16, [])], [((.loc 1), []), ((.loc 2), []), ((.loc 4), [])])
  | 4 => ([(1, []), (2, []), (4, []), (5, []), (14, []), (15, [])], [((.loc 1), []), ((.loc 2), []), ((.loc 4), [])])
  | 5 => ([(1, []), (2, []), (4, []), (14, []), (15, [])], [((.loc 1), []), ((.loc 2), []), ((.loc 4), [])])
  | 6 => ([(1, []), (2, []), (4, []), (14, []), (15, [])], [((.loc 1), []), ((.loc 2), []), ((.loc 4), [.any, .own .u64])])
  | 7 => ([(1, []), (2, []), (4, []), (28, []), (29, [])], [((.loc 1), []), ((.loc 2), []), ((.loc 4), [.any, .any, .own .tree])])
  | 8 => ([(1, []), (2, []), (4, []), (28, []), (29, []), (30, [])], [((.loc 1), []), ((.loc 2), []), ((.loc 4), [])])
  | 9 => ([(1, []), (2, []), (4, []), (6, []), (28, []), (29, [])], [((.loc 1), []), ((.loc 2), []), ((.loc 4), [])])
  | 10 => ([(1, []), (2, []), (4, []), (7, []), (8, []), (28, []), (29, [])], [((.loc 1), []), ((.loc 2), []), ((.loc 4), []), ((.loc 7), [])])
  | 11 => ([(1, []), (2, []), (4, []), (7, []), (8, []), (28, []), (29, []), (39, [])], [((.loc 1), []), ((.loc 2), []), ((.loc 4), []), ((.loc 7), [])])
  | 12 => ([(2, []), (3, [])], [((.loc 2), [])])
  | 13 => ([(1, []), (2, []), (4, []), (8, []), (9, []), (28, []), (29, [])], [((.loc 1), []), ((.loc 2), []), ((.loc 4), []), ((.loc 9), [])])
  | 14 => ([(1, []), (2, []), (4, []), (8, []), (9, []), (28, []), (29, []), (48, [])], [((.loc 1), []), ((.loc 2), []), ((.loc 4), []), ((.loc 9), [])])
  | 15 => ([(2, []), (3, [])], [((.loc 2), [])])
  | 16 => ([(1, []), (2, []), (4, []), (28, []), (29, [])], [((.loc 1), []), ((.loc 2), []), ((.loc 4), [])])
  | 17 => ([(1, []), (2, []), (4, []), (28, []), (29, [])], [((.loc 1), []), ((.loc 2), []), ((.loc 4), [.any, .any, .own .tree])])
  | 18 => ([(2, []), (3, [])], [((.loc 2), [])])
  | _ => ([], [])
noncomputable def head52_0 (r : Ref) (x15 : Int) (ml4_1 : List Int) : LSt U := (⟨[(1, .ptr (.loc 1) 0), (2, .ptr (.loc 2) 0), (4, .ptr (.loc 4) 0), (14, .c (.int .i64 (lenR (Ref.mk (Ref.a r) (Ref.kind r) (Ref.segment r) (Ref.at_ r) (Ref.data r) (Ref.kids r) (Ref.count r) (Ref.number r))))), (15, .c (.int .i64 x15))], [((.loc 1), [.po (U := U) .arena (Ref.a r), .int .i64 (Ref.kind r), .int .i64 (Ref.segment r), .int .i64 (Ref.at_ r), .int .i64 (Ref.data r), .int .i64 (Ref.kids r), .int .i64 (Ref.count r), .int .u64 (Ref.number r)]), ((.loc 2), [.int .i64 0, .nils, .nils]), ((.loc 4), [.int .i64 (Ref.kind (Ref.mk (Ref.a r) (Ref.kind r) (Ref.segment r) (Ref.at_ r) (Ref.data r) (Ref.kids r) (Ref.count r) (Ref.number r))), .slice (U := U) .u64 ml4_1 (.own (.l 4 1)), .nils])], []⟩ : LSt U)
noncomputable def head52_1 (r : Ref) (ml4_1 : List Int) (x29_a : Int) (ml4_2_a : List Tree) : LSt U := (⟨[(1, .ptr (.loc 1) 0), (2, .ptr (.loc 2) 0), (4, .ptr (.loc 4) 0), (28, .c (.int .i64 (kidsR (Ref.mk (Ref.a r) (Ref.kind r) (Ref.segment r) (Ref.at_ r) (Ref.data r) (Ref.kids r) (Ref.count r) (Ref.number r))))), (29, .c (.int .i64 x29_a))], [((.loc 1), [.po (U := U) .arena (Ref.a r), .int .i64 (Ref.kind r), .int .i64 (Ref.segment r), .int .i64 (Ref.at_ r), .int .i64 (Ref.data r), .int .i64 (Ref.kids r), .int .i64 (Ref.count r), .int .u64 (Ref.number r)]), ((.loc 2), [.int .i64 0, .nils, .nils]), ((.loc 4), [.int .i64 (Ref.kind (Ref.mk (Ref.a r) (Ref.kind r) (Ref.segment r) (Ref.at_ r) (Ref.data r) (Ref.kids r) (Ref.count r) (Ref.number r))), .slice (U := U) .u64 ml4_1 (.own (.l 4 1)), .slice (U := U) .tree ml4_2_a (.own (.l 4 2))])], []⟩ : LSt U)
noncomputable abbrev A52 (N : Nat) (p : List Nat) := awp cfg (know (know52 N)) (drawOk cfg (know (know52 N))) Try.f52.ntmps lv52 (cd Try.f52 p)
noncomputable abbrev S52 (N : Nat) (p : List Nat) := seqK cfg (know (know52 N)) (drawOk cfg (know (know52 N))) Try.f52.ntmps lv52 (cd Try.f52 p)
theorem vc52 (N : Nat) (r : Ref) (Q : AExit → LSt U → Prop) (h : ((pre22 ((Ref.mk (Ref.a r) (Ref.kind r) (Ref.segment r) (Ref.at_ r) (Ref.data r) (Ref.kids r) (Ref.count r) (Ref.number r)), ())) ∧ ((pre59 ((Ref.mk (Ref.a r) (Ref.kind r) (Ref.segment r) (Ref.at_ r) (Ref.data r) (Ref.kids r) (Ref.count r) (Ref.number r)), ())) ∧ (LoopWp (A52 N [1, 1, 0, 1, 0, 0]) (head52_0 r 0 ([])) (AExit.inBlock 0 (S52 N [1, 1, 1] Q)))))) :
    A52 N [] (⟨[(0, .agg [.po (U := U) .arena (Ref.a r), .int .i64 (Ref.kind r), .int .i64 (Ref.segment r), .int .i64 (Ref.at_ r), .int .i64 (Ref.data r), .int .i64 (Ref.kids r), .int .i64 (Ref.count r), .int .u64 (Ref.number r)])], [], []⟩ : LSt U) Q :=
  Eq.mpr (by kernel_rfl) h
theorem vc52_l0 (N : Nat) (r : Ref) (x15 : Int) (ml4_1 : List Int) (N0 : LSt U → Prop) (Q : AExit → LSt U → Prop) (h : (((decide ((x15 : Int) < (lenR (Ref.mk (Ref.a r) (Ref.kind r) (Ref.segment r) (Ref.at_ r) (Ref.data r) (Ref.kids r) (Ref.count r) (Ref.number r))))) = true → ((pre25 ((Ref.mk (Ref.a r) (Ref.kind r) (Ref.segment r) (Ref.at_ r) (Ref.data r) (Ref.kids r) (Ref.count r) (Ref.number r)), x15, ())) ∧ ((ml4_1.length + ([wordR (Ref.mk (Ref.a r) (Ref.kind r) (Ref.segment r) (Ref.at_ r) (Ref.data r) (Ref.kids r) (Ref.count r) (Ref.number r)) x15]).length) * 8 ≤ 140737488355328) ∧ ((InR ((x15 : Int) + 1)) ∧ (N0 (head52_0 r ((x15 : Int) + 1) (ml4_1 ++ ([wordR (Ref.mk (Ref.a r) (Ref.kind r) (Ref.segment r) (Ref.at_ r) (Ref.data r) (Ref.kids r) (Ref.count r) (Ref.number r)) x15]))))))) ∧ ((decide ((x15 : Int) < (lenR (Ref.mk (Ref.a r) (Ref.kind r) (Ref.segment r) (Ref.at_ r) (Ref.data r) (Ref.kids r) (Ref.count r) (Ref.number r))))) = false → (pre23 ((Ref.mk (Ref.a r) (Ref.kind r) (Ref.segment r) (Ref.at_ r) (Ref.data r) (Ref.kids r) (Ref.count r) (Ref.number r)), ())) ∧ (LoopWp (A52 N [1, 1, 1, 0, 1, 0, 0]) (head52_1 r ml4_1 0 ([])) (AExit.inBlock 2 (S52 N [1, 1, 1, 1] Q)))))) :
    A52 N [1, 1, 0, 1, 0, 0] (head52_0 r x15 ml4_1) (AExit.then N0 (AExit.inBlock 0 (S52 N [1, 1, 1] Q))) :=
  Eq.mpr (by kernel_rfl) h
theorem vc52_l1 (N : Nat) (r : Ref) (ml4_1 : List Int) (x29_a : Int) (ml4_2_a : List Tree) (N1 : LSt U → Prop) (Q : AExit → LSt U → Prop) (h : ∀ y_1, y_1 = (r) → ∀ y_2, y_2 = (liftX (Ref.a y_1) (kidX (segO (Ref.a y_1)) (unX y_1) x29_a).1) → ∀ y_3, y_3 = (y_2) → ∀ y_4, y_4 = ((valT y_3)) → (((decide ((x29_a : Int) < (kidsR y_1))) = true → ((pre24 (y_1, x29_a, ())) ∧ (((((((kidX (segO (Ref.a y_1)) (unX y_1) x29_a).2) : Int) != 0) = true → (Q .ret (⟨[(2, .ptr (.loc 2) 0), (3, .c (.int .i64 ((kidX (segO (Ref.a y_1)) (unX y_1) x29_a).2)))], [((.loc 2), [.int .i64 0, .nils, .nils])], []⟩ : LSt U))) ∧ (((((kidX (segO (Ref.a y_1)) (unX y_1) x29_a).2) : Int) != 0) = false → (pre52 (y_3, ())) ∧ (mu52 (y_3, ()) < N) ∧ (((((0 : Int) != 0) = true → (Q .ret (⟨[(2, .ptr (.loc 2) 0), (3, .c (.int .i64 0))], [((.loc 2), [.int .i64 0, .nils, .nils])], []⟩ : LSt U))) ∧ (((0 : Int) != 0) = false → ((ml4_2_a.length + ([y_4]).length) * 56 ≤ 140737488355328) ∧ ((InR ((x29_a : Int) + 1)) ∧ (N1 (head52_1 r ml4_1 ((x29_a : Int) + 1) (ml4_2_a ++ ([y_4]))))))))))))) ∧ ((decide ((x29_a : Int) < (kidsR y_1))) = false → (Q .ret (⟨[(2, .ptr (.loc 2) 0), (3, .c (.int .i64 0))], [((.loc 2), [.int .i64 (Ref.kind y_1), .slice (U := U) .u64 ml4_1 (.own (.l 2 1)), .slice (U := U) .tree ml4_2_a (.own (.l 2 2))])], []⟩ : LSt U))))) :
    A52 N [1, 1, 1, 0, 1, 0, 0] (head52_1 r ml4_1 x29_a ml4_2_a) (AExit.then N1 (AExit.inBlock 2 (S52 N [1, 1, 1, 1] Q))) :=
  Eq.mpr (by kernel_rfl) (h _ (reRef_eq _) _ rfl _ (reRef_eq _) _ (reTree_eq _))
def Body52 (N : Nat) (r : Ref)  : Prop := awp cfg (know (know52 N)) (drawOk cfg (know (know52 N))) Try.f52.ntmps lv52 (cd Try.f52 []) (entry (args52.can (r, ())) []) (EndsQ cfg Try.f52.ntmps Try.f52.results.toList (res52 (r, ())) [])
theorem make52 (c22 : Contract Try.prog cfg 22 spec22) (c59 : Contract Try.prog cfg 59 spec59) (c25 : Contract Try.prog cfg 25 spec25) (c23 : Contract Try.prog cfg 23 spec23) (c24 : Contract Try.prog cfg 24 spec24) (hb : ∀ (N : Nat) (r : Ref) (_ : Unit), pre52 (r, ()) → mu52 (r, ()) < N + 1 → Body52 N r) : Contract Try.prog cfg 52 spec52 :=
  contract_rec (μ := mu52) (l := [(22, spec22), (59, spec59), (25, spec25), (23, spec23), (24, spec24)]) cfgOk rfl (⟨c22, c59, c25, c23, c24, trivial⟩) lv52 Try.func52 rfl rfl 1 (fun _ => rfl) (by decide) (fun N ⟨r, _⟩ => hb N r ())

noncomputable def know48 : List (FuncId × Fs U) := [(40, spec40), (21, spec21), (52, spec52), (72, spec72)]
def lv48 : Lives U := fun i => match i with
  | 0 => ([(0, []), (3, []), (4, [])], [((.loc 3), []), ((.loc 4), [])])
  | 1 => ([(0, []), (4, []), (7, [])], [((.loc 4), [])])
  | 2 => ([(0, []), (4, []), (7, []), (18, [])], [((.loc 4), [])])
  | 3 => ([(4, []), (5, [])], [((.loc 4), [])])
  | 4 => ([(4, []), (8, []), (9, [])], [((.loc 4), []), ((.loc 8), [])])
  | 5 => ([(4, []), (8, []), (9, []), (27, [])], [((.loc 4), []), ((.loc 8), [])])
  | 6 => ([(4, []), (5, [])], [((.loc 4), [])])
  | 7 => ([(4, []), (9, []), (10, [])], [((.loc 4), []), ((.loc 10), [])])
  | 8 => ([(4, []), (5, [])], [((.loc 4), [])])
  | _ => ([], [])
noncomputable abbrev A48 (p : List Nat) := awp cfg (know know48) (drawOk cfg (know know48)) Try.f48.ntmps lv48 (cd Try.f48 p)
theorem vc48 (a : Option Arena) (x : Limits) (Q : AExit → LSt U → Prop) (h : ∀ y_1, y_1 = (x) → ∀ y_2, y_2 = ((liftX a (refAt (segO a) 0 0).1)) → ∀ y_3, y_3 = ((valT y_2)) → ((pre40 (a, y_1, ())) ∧ (((((((unfV (segO a) y_1).2.2) : Int) != 0) = true → (Q .ret (⟨[(4, .ptr (.loc 4) 0), (5, .c (.int .i64 ((unfV (segO a) y_1).2.2)))], [((.loc 4), [.int .i64 0, .nils, .nils])], []⟩ : LSt U))) ∧ (((((unfV (segO a) y_1).2.2) : Int) != 0) = false → (pre21 (a, ())) ∧ (((((((refAt (segO a) 0 0).2) : Int) != 0) = true → (Q .ret (⟨[(4, .ptr (.loc 4) 0), (5, .c (.int .i64 ((refAt (segO a) 0 0).2)))], [((.loc 4), [.int .i64 0, .nils, .nils])], []⟩ : LSt U))) ∧ (((((refAt (segO a) 0 0).2) : Int) != 0) = false → (pre52 (y_2, ())) ∧ ((pre72 (y_3, ())) ∧ (Q .ret (⟨[(4, .ptr (.loc 4) 0), (5, .c (.int .i64 0))], [((.loc 4), [.int .i64 (Tree.kind (normT y_3)), .slice (U := U) .u64 (Tree.words (normT y_3)) .unk, .slice (U := U) .tree (Tree.kids (normT y_3)) .unk])], []⟩ : LSt U))))))))))) :
    A48 [] (⟨[(0, .c (.po (U := U) .arena a)), (1, .agg [.int .i64 (Limits.depth x), .int .i64 (Limits.weight x), .int .i64 (Limits.maxD x), .int .i64 (Limits.maxOut x)])], [], []⟩ : LSt U) Q :=
  Eq.mpr (by kernel_rfl) (h _ (reLimits_eq _) _ (reRef_eq _) _ (reTree_eq _))
def Body48 (a : Option Arena) (x : Limits)  : Prop := awp cfg (know (know48)) (drawOk cfg (know (know48))) Try.f48.ntmps lv48 (cd Try.f48 []) (entry (args48.can (a, x, ())) []) (EndsQ cfg Try.f48.ntmps Try.f48.results.toList (res48 (a, x, ())) [])
theorem make48 (c40 : Contract Try.prog cfg 40 spec40) (c21 : Contract Try.prog cfg 21 spec21) (c52 : Contract Try.prog cfg 52 spec52) (c72 : Contract Try.prog cfg 72 spec72) (hb : ∀ (a : Option Arena) (x : Limits) (_ : Unit), pre48 (a, x, ()) → Body48 a x) : Contract Try.prog cfg 48 spec48 :=
  contract_flat (l := [(40, spec40), (21, spec21), (52, spec52), (72, spec72)]) cfgOk rfl (⟨c40, c21, c52, c72, trivial⟩) lv48 Try.func48 rfl rfl 2 (fun _ => rfl) (by decide) (fun ⟨a, x, _⟩ => hb a x ())

noncomputable def know51 : List (FuncId × Fs U) := [(20, spec20), (48, spec48)]
def lv51 : Lives U := fun i => match i with
  | 0 => ([], [])
  | 1 => ([(1, []), (2, [])], [((.loc 1), [])])
  | 2 => ([(0, [])], [])
  | _ => ([], [])
noncomputable abbrev A51 (p : List Nat) := awp cfg (know know51) (drawOk cfg (know know51)) Try.f51.ntmps lv51 (cd Try.f51 p)
theorem vc51 (Q : AExit → LSt U → Prop) (h : ∀ y_1, y_1 = (unfV (segO (some (Arena.mk ([[4294967296, 0]]) 0 0 0))) (Limits.mk 1 2 0 0)) → ((pre20 (([[4294967296, 0]]), ())) ∧ (pre48 ((some (Arena.mk ([[4294967296, 0]]) 0 0 0)), (Limits.mk 1 2 0 0), ())) ∧ ((Tr ((((y_1.2.2) : Int) == 0) = true)) ∧ (Tr ((((y_1.2.2) : Int) == 0) = true)) ∧ ((Tr ((((y_1.2.2) : Int) == 0) = true))) ∧ (Tr ((bif (((y_1.2.2) : Int) == 0) then (((Tree.kind (normT y_1.1)) : Int) == 1) else false) = true)) ∧ (Tr ((bif (((y_1.2.2) : Int) == 0) then (((Tree.kind (normT y_1.1)) : Int) == 1) else false) = true)) ∧ (Tr ((bif (((y_1.2.2) : Int) == 0) then (((Tree.kind (normT y_1.1)) : Int) == 1) else false) = true)) ∧ (Tr ((bif (((y_1.2.2) : Int) == 0) then (((Tree.kind (normT y_1.1)) : Int) == 1) else false) = true)) ∧ (Tr ((bif (((y_1.2.2) : Int) == 0) then (((Tree.kind (normT y_1.1)) : Int) == 1) else false) = true)) ∧ (Tr ((bif (((y_1.2.2) : Int) == 0) then (((Tree.kind (normT y_1.1)) : Int) == 1) else false) = true)) ∧ ((bif (((y_1.2.2) : Int) == 0) then (((Tree.kind (normT y_1.1)) : Int) == 1) else false) = true → InR ((((Tree.words (normT y_1.1)).length : Int) : Int) + ((Tree.kids (normT y_1.1)).length : Int))) ∧ (Tr ((bif (((y_1.2.2) : Int) == 0) then (((Tree.kind (normT y_1.1)) : Int) == 1) else false) = true)) ∧ ((Tr ((bif (((y_1.2.2) : Int) == 0) then (((Tree.kind (normT y_1.1)) : Int) == 1) else false) = true))) ∧ (Q .ret (⟨[(0, .c (.bool (bif (bif (((y_1.2.2) : Int) == 0) then (((Tree.kind (normT y_1.1)) : Int) == 1) else false) then ((((((Tree.words (normT y_1.1)).length : Int) : Int) + ((Tree.kids (normT y_1.1)).length : Int)) : Int) == 0) else false)))], [], []⟩ : LSt U))))) :
    A51 [] (⟨[], [], []⟩ : LSt U) Q :=
  Eq.mpr (by kernel_rfl) (h _ rfl)
def Body51  : Prop := awp cfg (know (know51)) (drawOk cfg (know (know51))) Try.f51.ntmps lv51 (cd Try.f51 []) (entry (args51.can (())) []) (EndsQ cfg Try.f51.ntmps Try.f51.results.toList (res51 (())) [])
theorem make51 (c20 : Contract Try.prog cfg 20 spec20) (c48 : Contract Try.prog cfg 48 spec48) (hb : ∀ (_ : Unit), pre51 (()) → Body51 ) : Contract Try.prog cfg 51 spec51 :=
  contract_flat (l := [(20, spec20), (48, spec48)]) cfgOk rfl (⟨c20, c48, trivial⟩) lv51 Try.func51 rfl rfl 0 (fun _ => rfl) (by decide) (fun _ => hb  ())

noncomputable def know13 : List (FuncId × Fs U) := [(39, spec39), (20, spec20), (48, spec48), (41, spec41), (50, spec50), (49, spec49), (51, spec51)]
def lv13 : Lives U := fun i => match i with
  | 0 => ([(0, []), (3, [])], [((.loc 3), [])])
  | 1 => ([(0, []), (3, [])], [((.loc 3), [])])
  | 2 => ([(0, []), (3, []), (5, []), (6, [])], [((.loc 3), []), ((.loc 5), [])])
  | 3 => ([(5, []), (6, []), (7, []), (9, [])], [((.loc 5), []), ((.loc 7), [])])
  | 4 => ([(4, [])], [])
  | _ => ([], [])
noncomputable abbrev A13 (p : List Nat) := awp cfg (know know13) (drawOk cfg (know know13)) Try.f13.ntmps lv13 (cd Try.f13 p)
theorem vc13 (l : List (List Int)) (x : Limits) (Q : AExit → LSt U → Prop) (h : ∀ y_1, y_1 = (x) → ∀ y_2, y_2 = ((lightV y_1)) → ∀ y_3, y_3 = (((unfV l y_2).1)) → ∀ y_4, y_4 = ((normT (unfV (segO (some (Arena.mk l 0 0 0))) y_2).1)) → ∀ y_5, y_5 = ((normT y_3)) → ((pre39 (y_1, ())) ∧ ((pre20 (l, ())) ∧ (pre48 ((some (Arena.mk l 0 0 0)), y_2, ())) ∧ ((pre41 (l, y_2, ())) ∧ ((pre50 (y_3, ())) ∧ (pre49 (y_4, y_5, ())) ∧ (Tr ((sameT y_4 y_5) = true)) ∧ (Tr ((sameT y_4 y_5) = true)) ∧ ((Tr ((sameT y_4 y_5) = true))) ∧ ((bif (sameT y_4 y_5) then ((((unfV (segO (some (Arena.mk l 0 0 0))) y_2).2.2) : Int) == ((unfV l y_2).2.2)) else false) = true → pre51 (())) ∧ ((Tr ((bif (sameT y_4 y_5) then ((((unfV (segO (some (Arena.mk l 0 0 0))) y_2).2.2) : Int) == ((unfV l y_2).2.2)) else false) = true))) ∧ (Q .ret (⟨[(4, .c (.bool (bif (bif (sameT y_4 y_5) then ((((unfV (segO (some (Arena.mk l 0 0 0))) y_2).2.2) : Int) == ((unfV l y_2).2.2)) else false) then true else false)))], [], []⟩ : LSt U))))))) :
    A13 [] (⟨[(0, .c (.slice (U := U) .words l .unk)), (1, .agg [.int .i64 (Limits.depth x), .int .i64 (Limits.weight x), .int .i64 (Limits.maxD x), .int .i64 (Limits.maxOut x)])], [], []⟩ : LSt U) Q :=
  Eq.mpr (by kernel_rfl) (h _ (reLimits_eq _) _ (reLimits_eq _) _ (reTree_eq _) _ (reTree_eq _) _ (reTree_eq _))
def Body13 (l : List (List Int)) (x : Limits)  : Prop := awp cfg (know (know13)) (drawOk cfg (know (know13))) Try.f13.ntmps lv13 (cd Try.f13 []) (entry (args13.can (l, x, ())) []) (EndsQ cfg Try.f13.ntmps Try.f13.results.toList (res13 (l, x, ())) [])
theorem make13 (c39 : Contract Try.prog cfg 39 spec39) (c20 : Contract Try.prog cfg 20 spec20) (c48 : Contract Try.prog cfg 48 spec48) (c41 : Contract Try.prog cfg 41 spec41) (c50 : Contract Try.prog cfg 50 spec50) (c49 : Contract Try.prog cfg 49 spec49) (c51 : Contract Try.prog cfg 51 spec51) (hb : ∀ (l : List (List Int)) (x : Limits) (_ : Unit), pre13 (l, x, ()) → Body13 l x) : Contract Try.prog cfg 13 spec13 :=
  contract_flat (l := [(39, spec39), (20, spec20), (48, spec48), (41, spec41), (50, spec50), (49, spec49), (51, spec51)]) cfgOk rfl (⟨c39, c20, c48, c41, c50, c49, c51, trivial⟩) lv13 Try.func13 rfl rfl 2 (fun _ => rfl) (by decide) (fun ⟨l, x, _⟩ => hb l x ())

end Go.AM.Ythokdjgpdonhgaa

namespace Go.AM.Ythokdjgpdonhgaa
open Go.AM Go.Proofs

theorem take_getD {α : Type} (l : List α) (d : α) (i : Int) (h0 : 0 ≤ i) (h : i < l.length) : l.take i.toNat ++ [l.getD i.toNat d] = l.take (i + 1).toNat := by
  rw [show (i + 1).toNat = i.toNat + 1 by omega, List.getD_eq_getElem?_getD, List.getElem?_eq_getElem (show i.toNat < l.length by omega), Option.getD_some]
  exact List.take_append_getElem (by omega)

theorem mass_kid {k : Int} {w : List Int} {ks : List Tree} {i : Nat} (h : i < ks.length) : mass (ks.getD i Tree.nil) < mass (.mk k w ks) := by
  have := massK_get h
  rw [mass]
  omega

theorem c52 : Contract Try.prog cfg 52 spec52 := by
  refine make52 c22 c59 c25 c23 c24 ?_
  rintro N r _ hp hN
  obtain ⟨hr, he⟩ := hp
  dsimp only at hr he
  have hN' : mass (valT r) < N + 1 := hN
  have hg := val_good hr he
  obtain ⟨ks, e0, hks, hkid⟩ := val_kids hr.1 hr.2 he
  have e0' : valT r = ⟨r.kind, wordsX (segO r.a) (unX r), ks⟩ := e0
  have hkd : kidsR r = ks.length := by rw [kidsR_un]; exact hks.symm
  have hw : ((wordsX (segO r.a) (unX r)).length : Int) = lenR r := by
    rw [(wordsX_rng hr.1 hr.2).2]
    have hk : (unX r).kind = r.kind := rfl
    have hd : (unX r).data = r.data := rfl
    rw [hk, hd]
    unfold lenR
    by_cases h1 : r.kind = 1
    · simp [h1]
    · simp [h1]
  have hm : (wordsX (segO r.a) (unX r)).length + ks.length ≤ 140000 := by
    have h1 := hg.2.2
    have h2 := massK_len ks
    rw [e0', mass] at h1
    omega
  have fin : EndsQ cfg Try.f52.ntmps Try.f52.results.toList (res52 (r, ())) [] .ret (⟨[(2, .ptr (.loc 2) 0), (3, .c (.int .i64 0))], [((.loc 2), [.int .i64 r.kind, .slice .u64 (wordsX (segO r.a) (unX r)) (.own (.l 2 1)), .slice .tree ks (.own (.l 2 2))])], []⟩ : LSt U) := by
    have h : EndsQ cfg Try.f52.ntmps Try.f52.results.toList (.tup [(true, enc .tree ⟨r.kind, wordsX (segO r.a) (unX r), ks⟩), (false, [.int .i64 0])]) [] .ret (⟨[(2, .ptr (.loc 2) 0), (3, .c (.int .i64 0))], [((.loc 2), [.int .i64 r.kind, .slice .u64 (wordsX (segO r.a) (unX r)) (.own (.l 2 1)), .slice .tree ks (.own (.l 2 2))])], []⟩ : LSt U) := by (repeat' (first | exact trivial | exact rfl | refine And.intro ?_ ?_))
    refine ends_eq ?_ h
    simp only [res52]
    rw [e0']
    rfl
  refine vc52 N _ _ ?_
  refine ⟨trivial, trivial, ?_⟩
  refine loop_rule (ι := Int) (fun p => head52_0 r p ((wordsX (segO r.a) (unX r)).take p.toNat)) (fun p => 0 ≤ p ∧ p ≤ lenR r) (fun p => (lenR r - p).toNat) 0 rfl ⟨by omega, by omega⟩ ?_
  rintro i ⟨h1, h2⟩
  refine vc52_l0 _ _ _ _ _ _ ?_
  (simp only [vcT, bif_tl, bif_fr, bif_tlf, bif_frf, Bool.not_eq_true', Bool.not_eq_false', decide_eq_true_eq, decide_eq_false_iff_not, beq_iff_eq, beq_eq_false_iff_ne, bne_iff_ne, ne_eq, bne_eq_false_iff_eq, Bool.or_eq_true, Bool.and_eq_true, Bool.or_eq_false_iff, Bool.and_eq_false_imp])
  refine ⟨fun hi => ⟨hr, by simp only [List.length_append, List.length_take, List.length_cons, List.length_nil]; omega, by ((unfold InR; omega)), i + 1, ?_, ⟨by omega, ?_⟩, ?_⟩, fun hi => ⟨trivial, ?_⟩⟩
  · show head52_0 r (i + 1) (_ ++ [wordR r i]) = head52_0 r (i + 1) _
    have hi' : i < lenR r := hi
    rw [← take_getD (wordsX (segO r.a) (unX r)) 0 i h1 (by omega)]
    unfold wordR
    rw [if_neg (by omega)]
  · have hi' : i < lenR r := hi
    omega
  · have hi' : i < lenR r := hi
    omega
  · have hi' : ¬ i < lenR r := hi
    rw [List.take_of_length_le (by omega)]
    refine loop_rule (ι := Int) (fun p => head52_1 r (wordsX (segO r.a) (unX r)) p (ks.take p.toNat)) (fun p => 0 ≤ p ∧ p ≤ ks.length) (fun p => ((ks.length : Int) - p).toNat) 0 rfl ⟨by omega, by omega⟩ ?_
    rintro j ⟨g1, g2⟩
    refine vc52_l1 _ _ _ _ _ _ _ ?_
    rintro y1 hy1 y2 hy2 y3 hy3 y4 hy4
    replace hy1 := hy1.symm
    subst hy1
    subst hy3
    (simp only [vcT, bif_tl, bif_fr, bif_tlf, bif_frf, Bool.not_eq_true', Bool.not_eq_false', decide_eq_true_eq, decide_eq_false_iff_not, beq_iff_eq, beq_eq_false_iff_ne, bne_iff_ne, ne_eq, bne_eq_false_iff_eq, Bool.or_eq_true, Bool.and_eq_true, Bool.or_eq_false_iff, Bool.and_eq_false_imp])
    rw [hkd]
    refine ⟨fun hj => ?_, fun hj => ?_⟩
    · obtain ⟨q1, q2, q3⟩ := hkid j g1 (by rw [← hks]; exact hj)
      have hkx := okX_kid hr.1 hr.2 j
      have hl := val_lift hkx
      rw [← hy2] at hl
      rw [← hl.1, ← hy4] at q3
      have hmk := mass_kid (k := r.kind) (w := wordsX (segO r.a) (unX r)) (ks := ks) (i := j.toNat) (by omega)
      rw [q3, ← e0'] at hmk
      refine ⟨hr, fun h => absurd q1 h, fun _ => ⟨⟨?_, hl.2 q2⟩, ?_, fun h => absurd trivial h, by simp only [List.length_append, List.length_take, List.length_cons, List.length_nil]; omega, by ((unfold InR; omega)), j + 1, ?_, ⟨by omega, by omega⟩, by omega⟩⟩
      · show okR y3
        rw [hy2]
        exact okR_lift hr.1 hkx
      · show mass (valT y3) < N
        rw [← hy4]
        omega
      · rw [← take_getD ks Tree.nil j g1 hj, q3]
    · rw [List.take_of_length_le (by omega)]
      exact fin

theorem c48 : Contract Try.prog cfg 48 spec48 := by
  refine make48 c40 c21 c52 c72 ?_
  rintro a x _ ha
  simp only [pre48] at ha
  refine vc48 _ _ _ ?_
  rintro y1 hy1 y2 hy2 y3 hy3
  replace hy1 := hy1.symm
  subst hy1
  (simp only [vcT, bif_tl, bif_fr, bif_tlf, bif_frf, Bool.not_eq_true', Bool.not_eq_false', decide_eq_true_eq, decide_eq_false_iff_not, beq_iff_eq, beq_eq_false_iff_ne, bne_iff_ne, ne_eq, bne_eq_false_iff_eq, Bool.or_eq_true, Bool.and_eq_true, Bool.or_eq_false_iff, Bool.and_eq_false_imp])
  have fin : ∀ {T : Tree} {e : Int}, normT (unfV (segO a) x).1 = T → (unfV (segO a) x).2.2 = e → ∀ {s : LSt U},
      EndsQ cfg Try.f48.ntmps Try.f48.results.toList (.tup [(true, enc .tree T), (false, [.int .i64 e])]) [] .ret s → EndsQ cfg Try.f48.ntmps Try.f48.results.toList (res48 (a, x, ())) [] .ret s := by
    intro T e h1 h2 s hs
    refine ends_eq ?_ hs
    simp only [res48]
    rw [h1, h2]
    rfl
  refine ⟨ha, fun he => fin (T := Tree.nil) (by rw [unf_nil he]; rfl) rfl (by (repeat' (first | exact trivial | exact rfl | refine And.intro ?_ ?_))), fun he => ?_⟩
  obtain ⟨u1, u2, u3⟩ := unf_root he
  have hx := okX_at ha 0 0
  have hl := val_lift hx
  rw [← hy2] at hl
  have hok : okR y2 := by rw [hy2]; exact okR_lift ha hx
  have hg := val_good hok (hl.2 u2)
  rw [← hl.1, ← hy3] at u3
  rw [← hy3] at hg
  refine ⟨ha, fun h => absurd u1 h, fun _ => ⟨⟨hok, hl.2 u2⟩, by show mass y3 ≤ _; omega, fin (T := normT y3) (by rw [u3]) he (by (repeat' (first | exact trivial | exact rfl | refine And.intro ?_ ?_)))⟩⟩

theorem aw_ok11 : okSeg [[4294967296, 0]] := by
  refine ⟨by decide, fun w hw => ?_⟩
  simp only [List.mem_singleton] at hw
  subst hw
  refine ⟨by decide, fun x hx => ?_⟩
  simp only [List.mem_cons, List.not_mem_nil, or_false] at hx
  omega

theorem c51 : Contract Try.prog cfg 51 spec51 := by
  refine make51 c20 c48 ?_
  rintro  _ hp
  refine vc51 _ ?_
  rintro y1 hy1
  have e1 : unfV (segO (some (Arena.mk [[4294967296, 0]] 0 0 0))) (Limits.mk 1 2 0 0) = (⟨1, [0], []⟩, 2, 0) := by rfl
  rw [e1] at hy1
  subst hy1
  have e2 : normT ⟨1, [0], []⟩ = ⟨1, [], []⟩ := by rfl
  dsimp only
  rw [e2]
  (simp only [vcT, bif_tl, bif_fr, bif_tlf, bif_frf, Bool.not_eq_true', Bool.not_eq_false', decide_eq_true_eq, decide_eq_false_iff_not, beq_iff_eq, beq_eq_false_iff_ne, bne_iff_ne, ne_eq, bne_eq_false_iff_eq, Bool.or_eq_true, Bool.and_eq_true, Bool.or_eq_false_iff, Bool.and_eq_false_imp])
  exact ⟨aw_ok11, aw_ok11, fun _ => by simp [InR], ends_bool rfl rfl⟩

theorem c13 : Contract Try.prog cfg 13 spec13 := by
  refine make13 c39 c20 c48 c41 c50 c49 c51 ?_
  rintro l x _ hl
  simp only [pre13] at hl
  refine vc13 _ _ _ ?_
  rintro y1 h1 y2 h2 y3 h3 y4 h4 y5 h5
  have hA : segO (some (Arena.mk l 0 0 0)) = l := rfl
  rw [hA] at h4 ⊢
  (simp only [vcT, bif_tl, bif_fr, bif_tlf, bif_frf, Bool.not_eq_true', Bool.not_eq_false', decide_eq_true_eq, decide_eq_false_iff_not, beq_iff_eq, beq_eq_false_iff_ne, bne_iff_ne, ne_eq, bne_eq_false_iff_eq, Bool.or_eq_true, Bool.and_eq_true, Bool.or_eq_false_iff, Bool.and_eq_false_imp])
  have hm : mass y3 ≤ 140000 := by
    rw [h3]
    by_cases he : (unfV l y2).2.2 = 0
    · exact (unfV_good hl y2 he).2.2.2.2.2
    · rw [unf_nil he]; decide
  have hm4 : mass y4 ≤ 140000 := by
    rw [h4, ← h3]
    exact Nat.le_trans (normT_mass y3) hm
  rw [← h3, ← h5] at h4
  subst h4
  refine ⟨trivial, hl, hl, hl, by simp only [pre50]; omega, by simp only [pre49]; omega, fun _ => trivial, ends_bool rfl ?_⟩
  simp [sameT]

end Go.AM.Ythokdjgpdonhgaa
