import Derived.Test.YthokdjgpdonhgaaQBb
set_option linter.unusedSimpArgs false
set_option linter.unusedVariables false
namespace Go.AM.Ythokdjgpdonhgaa
open Go.AM Go.Proofs

theorem loopM_next (f : Int → Int → Tree × Int × Int) {n : Int} {i left : Int} (acc : List Tree) (hi : i < n) : loopM f (n - i).toNat i left acc = if (f i left).2.2 = 0 then loopM f (n - (i + 1)).toNat (i + 1) (f i left).2.1 (acc ++ [(f i left).1]) else (acc, (f i left).2) := by
  rw [show (n - i).toNat = (n - (i + 1)).toNat + 1 by omega]
  rfl

theorem b109 : HB109 := by
  intro N l x d left _ hp hN
  obtain ⟨hl, hx, hd, h0, h1, hd0, hk⟩ := hp
  dsimp only at hl hx hd h0 h1 hd0 hk
  have hN' : 2 * d.toNat + 2 < N + 1 := hN
  have hpt := hx.ptrs
  have hr : ∀ {acc : List Tree} {w e : Int}, loopM (fun j left => if (kidX l x j).2 = 0 then mean l d.toNat (kidX l x j).1 left else (Tree.nil, left, (kidX l x j).2)) x.ptrs.toNat 0 left [] = (acc, w, e) → ∀ {s : LSt U},
      EndsQ cfg Try.f109.ntmps Try.f109.results.toList (.tup [(true, enc .tree ⟨1, wordsX l x, acc⟩), (false, [.int .i64 w]), (false, [.int .i64 e])]) [] .ret s → EndsQ cfg Try.f109.ntmps Try.f109.results.toList (res109 (l, x, d, left, ())) [] .ret s := by
    intro acc w e he s hs
    refine ends_eq ?_ hs
    simp only [res109, kidsM]
    rw [he]
    rfl
  refine vc109 _ _ _ _ _ _ ?_
  refine ⟨⟨hl, hx⟩, ?_⟩
  refine loop_rule (ι := Int × Int × List Tree) (fun p => head109_0 l x d left p.1 p.2.1 p.2.2)
    (fun p => 0 ≤ p.1 ∧ p.1 ≤ left ∧ 0 ≤ p.2.1 ∧ p.2.1 ≤ x.ptrs ∧ p.2.2.length = p.2.1 ∧ loopM (fun j left => if (kidX l x j).2 = 0 then mean l d.toNat (kidX l x j).1 left else (Tree.nil, left, (kidX l x j).2)) (x.ptrs - p.2.1).toNat p.2.1 p.1 p.2.2 = loopM (fun j left => if (kidX l x j).2 = 0 then mean l d.toNat (kidX l x j).1 left else (Tree.nil, left, (kidX l x j).2)) x.ptrs.toNat 0 left [])
    (fun p => (x.ptrs - p.2.1).toNat) (left, 0, []) rfl ⟨h0, Int.le_refl _, by dsimp only; omega, hpt.1, rfl, by dsimp only; rw [Int.sub_zero]⟩ ?_
  rintro ⟨w, i, acc⟩ ⟨w0, w1, i0, i1, ha, hL⟩
  dsimp only at w0 w1 i0 i1 ha hL
  refine vc109_l0 _ _ _ _ _ _ _ _ _ _ ?_
  rintro y1 hy1 y2 hy2 y3 hy3
  replace hy1 := hy1.symm
  subst hy1
  (simp only [vcT, bif_tl, bif_fr, bif_tlf, bif_frf, Bool.not_eq_true', Bool.not_eq_false', decide_eq_true_eq, decide_eq_false_iff_not, beq_iff_eq, beq_eq_false_iff_ne, bne_iff_ne, ne_eq, bne_eq_false_iff_eq, Bool.or_eq_true, Bool.and_eq_true, Bool.or_eq_false_iff, Bool.and_eq_false_imp])
  have hkx := okX_kid hl hx i
  refine ⟨fun hi => ⟨⟨hl, hx⟩, fun he => ?_, fun he => ⟨?_, ?_, fun hn => ?_, fun hn => ⟨by simp; omega, by ((unfold InR; omega)), ?_⟩⟩⟩, fun hi => ?_⟩
  · rw [loopM_next _ _ hi] at hL
    simp only [he, if_false] at hL
    exact hr hL.symm (by (repeat' (first | exact trivial | exact rfl | refine And.intro ?_ ?_)))
  · rw [hy2]; exact ⟨hl, hkx, hd, w0, by dsimp only; omega⟩
  · show 2 * d.toNat + 1 < N
    omega
  · rw [loopM_next _ _ hi] at hL
    simp only [he, if_true, ← hy2, if_neg hn] at hL
    exact hr (acc := acc) (w := (mean l d.toNat y2 w).2.1) (e := (mean l d.toNat y2 w).2.2) hL.symm (by (repeat' (first | exact trivial | exact rfl | refine And.intro ?_ ?_)))
  · rw [loopM_next _ _ hi] at hL
    simp only [he, if_true, ← hy2, if_pos hn, ← hy3] at hL
    have hf := mean_fine hl d.toNat y2 w (by rw [hy2]; exact hkx) w0
    exact ⟨((mean l d.toNat y2 w).2.1, i + 1, acc ++ [y3]), rfl, ⟨hf.1, Int.le_trans hf.2 w1, by dsimp only; omega, by dsimp only; omega, by simp; omega, hL⟩, by dsimp only; omega⟩
  · rw [show (x.ptrs - i).toNat = 0 by omega] at hL
    exact hr hL.symm (by (repeat' (first | exact trivial | exact rfl | refine And.intro ?_ ?_)))

theorem b78 : HB78 := by
  intro N l x d left _ hp hN
  obtain ⟨hl, hx, hd, h0, h1⟩ := hp
  dsimp only at hl hx hd h0 h1
  have hN' : 2 * d.toNat + 1 < N + 1 := hN
  have hkl := kidsX_le hx
  have hop := ownX_pos hx
  have hdt := hx.data
  have hpt := hx.ptrs
  have hct := hx.count
  have hr : ∀ {T : Tree} {w e : Int}, mean l d.toNat x left = (T, w, e) → ∀ {s : LSt U},
      EndsQ cfg Try.f78.ntmps Try.f78.results.toList (.tup [(true, enc .tree T), (false, [.int .i64 w]), (false, [.int .i64 e])]) [] .ret s → EndsQ cfg Try.f78.ntmps Try.f78.results.toList (res78 (l, x, d, left, ())) [] .ret s := by
    intro T w e he s hs
    refine ends_eq ?_ hs
    simp only [res78]
    rw [he]
    rfl
  have cut1 : ¬x.kind = 0 → (1 ≤ d ∧ (x.kind = 9 → 0 < x.count → 2 ≤ d)) → A78 N [1, 1, 1, 1, 1, 1, 1] (head78_1 l x d left (ownX x)) (EndsQ cfg Try.f78.ntmps Try.f78.results.toList (res78 (l, x, d, left, ())) []) := by
    intro hk0 hdd
    have hD : 1 ≤ d.toNat := by omega
    refine vc78_c1 _ _ _ _ _ _ _ ?_
    (simp only [vcT, bif_tl, bif_fr, bif_tlf, bif_frf, Bool.not_eq_true', Bool.not_eq_false', decide_eq_true_eq, decide_eq_false_iff_not, beq_iff_eq, beq_eq_false_iff_ne, bne_iff_ne, ne_eq, bne_eq_false_iff_eq, Bool.or_eq_true, Bool.and_eq_true, Bool.or_eq_false_iff, Bool.and_eq_false_imp])
    refine ⟨fun h => ?_, fun h => ⟨by ((unfold InR; omega)), ?_⟩⟩
    · refine hr (T := ⟨x.kind, wordsX l x, []⟩) (w := left) (e := 3) ?_ (by (repeat' (first | exact trivial | exact rfl | refine And.intro ?_ ?_)))
      rw [mean_eq hD]
      unfold stepM
      rw [if_neg hk0, if_pos (.inr (.inr h))]
    have hM : mean l d.toNat x left = (⟨x.kind, wordsX l x, (loopM (kidM l (mean l (d.toNat - 1)) (mean l (d.toNat - 2)) x) (kidsX x).toNat 0 (left - ownX x) []).1⟩, (loopM (kidM l (mean l (d.toNat - 1)) (mean l (d.toNat - 2)) x) (kidsX x).toNat 0 (left - ownX x) []).2) := by
      rw [mean_eq hD]
      unfold stepM
      rw [if_neg hk0, if_neg]
      rintro (q | q | q)
      · omega
      · have := hdd.2 q.1 q.2.1
        have := q.2.2
        omega
      · omega
    have hr2 : ∀ {acc : List Tree} {w e : Int}, loopM (kidM l (mean l (d.toNat - 1)) (mean l (d.toNat - 2)) x) (kidsX x).toNat 0 (left - ownX x) [] = (acc, w, e) → ∀ {s : LSt U},
        EndsQ cfg Try.f78.ntmps Try.f78.results.toList (.tup [(true, enc .tree ⟨x.kind, wordsX l x, acc⟩), (false, [.int .i64 w]), (false, [.int .i64 e])]) [] .ret s → EndsQ cfg Try.f78.ntmps Try.f78.results.toList (res78 (l, x, d, left, ())) [] .ret s := by
      intro acc w e he s hs
      refine hr (T := ⟨x.kind, wordsX l x, acc⟩) (w := w) (e := e) ?_ hs
      rw [hM, he]
    refine loop_rule (ι := Int × Int × List Tree) (fun p => head78_2 l x d left p.1 p.2.1 p.2.2)
      (fun p => 0 ≤ p.1 ∧ p.1 ≤ left ∧ 0 ≤ p.2.1 ∧ p.2.1 ≤ kidsX x ∧ p.2.2.length = p.2.1 ∧ loopM (kidM l (mean l (d.toNat - 1)) (mean l (d.toNat - 2)) x) (kidsX x - p.2.1).toNat p.2.1 p.1 p.2.2 = loopM (kidM l (mean l (d.toNat - 1)) (mean l (d.toNat - 2)) x) (kidsX x).toNat 0 (left - ownX x) [])
      (fun p => (kidsX x - p.2.1).toNat) (left - ownX x, 0, []) rfl ⟨by dsimp only; omega, by dsimp only; omega, by dsimp only; omega, hkl.1, rfl, by dsimp only; rw [Int.sub_zero]⟩ ?_
    rintro ⟨w, i, acc⟩ ⟨w0, w1, i0, i1, ha, hL⟩
    dsimp only at w0 w1 i0 i1 ha hL
    have hkx := okX_kid hl hx i
    refine vc78_l2 _ _ _ _ _ _ _ _ _ _ ?_
    rintro y1 hy1 y2 hy2
    replace hy1 := hy1.symm
    subst hy1
    (simp only [vcT, bif_tl, bif_fr, bif_tlf, bif_frf, Bool.not_eq_true', Bool.not_eq_false', decide_eq_true_eq, decide_eq_false_iff_not, beq_iff_eq, beq_eq_false_iff_ne, bne_iff_ne, ne_eq, bne_eq_false_iff_eq, Bool.or_eq_true, Bool.and_eq_true, Bool.or_eq_false_iff, Bool.and_eq_false_imp])
    have hk29 : kidsX x < 536870912 := by unfold kidsX; split <;> omega
    have key : ∀ (r : Tree × Int × Int) (v : V U), i < kidsX x → kidM l (mean l (d.toNat - 1)) (mean l (d.toNat - 2)) x i w = r → ∀ N2 : LSt U → Prop, (∀ p : Int × Int × List Tree, (0 ≤ p.1 ∧ p.1 ≤ left ∧ 0 ≤ p.2.1 ∧ p.2.1 ≤ kidsX x ∧ p.2.2.length = p.2.1 ∧ loopM (kidM l (mean l (d.toNat - 1)) (mean l (d.toNat - 2)) x) (kidsX x - p.2.1).toNat p.2.1 p.1 p.2.2 = loopM (kidM l (mean l (d.toNat - 1)) (mean l (d.toNat - 2)) x) (kidsX x).toNat 0 (left - ownX x) []) → (kidsX x - p.2.1).toNat < (kidsX x - i).toNat → N2 (head78_2 l x d left p.1 p.2.1 p.2.2)) →
        A78 N [1, 1, 1, 1, 1, 1, 1, 1, 1, 0, 1, 0, 0, 1, 0, 0, 1, 1, 1, 1] (head78_3 l x d left i acc r.2.1 r.2.2 r.1.kind r.1.words r.1.kids v)
          (AExit.inBlock 1 (S78 N [1, 1, 1, 1, 1, 1, 1, 1, 1, 0, 1, 0, 0, 1, 1] (AExit.then N2 (AExit.inBlock 0 (S78 N [1, 1, 1, 1, 1, 1, 1, 1, 1, 1] (EndsQ cfg Try.f78.ntmps Try.f78.results.toList (res78 (l, x, d, left, ())) [])))))) := by
      intro r v hi hf N2 hN2
      refine vc78_c3 _ _ _ _ _ _ _ _ _ _ _ _ _ _ _ ?_
      (simp only [vcT, bif_tl, bif_fr, bif_tlf, bif_frf, Bool.not_eq_true', Bool.not_eq_false', decide_eq_true_eq, decide_eq_false_iff_not, beq_iff_eq, beq_eq_false_iff_ne, bne_iff_ne, ne_eq, bne_eq_false_iff_eq, Bool.or_eq_true, Bool.and_eq_true, Bool.or_eq_false_iff, Bool.and_eq_false_imp])
      rw [loopM_next _ _ hi, hf] at hL
      refine ⟨fun he => ?_, fun he => ⟨by simp; omega, ?_⟩⟩
      · rw [if_neg he] at hL
        exact hr2 (acc := acc) (w := r.2.1) (e := r.2.2) hL.symm (by (repeat' (first | exact trivial | exact rfl | refine And.intro ?_ ?_)))
      · rw [if_pos he] at hL
        have hfi := kidM_fine hl (mean_fine hl (d.toNat - 1)) (mean_fine hl (d.toNat - 2)) hx i w w0
        rw [hf] at hfi
        refine vc78_c4 _ _ _ _ _ _ _ _ _ _ _ _ _ ?_
        refine ⟨by ((unfold InR; omega)), hN2 (r.2.1, i + 1, acc ++ [Tree.mk r.1.kind r.1.words r.1.kids]) ⟨hfi.1, Int.le_trans hfi.2 w1, by dsimp only; omega, by dsimp only; omega, by simp; omega, ?_⟩ (by dsimp only; omega)⟩
        dsimp only
        rw [Tree.eta]
        exact hL
    have hN2 : ∀ p : Int × Int × List Tree, (0 ≤ p.1 ∧ p.1 ≤ left ∧ 0 ≤ p.2.1 ∧ p.2.1 ≤ kidsX x ∧ p.2.2.length = p.2.1 ∧ loopM (kidM l (mean l (d.toNat - 1)) (mean l (d.toNat - 2)) x) (kidsX x - p.2.1).toNat p.2.1 p.1 p.2.2 = loopM (kidM l (mean l (d.toNat - 1)) (mean l (d.toNat - 2)) x) (kidsX x).toNat 0 (left - ownX x) []) → True := fun _ _ => trivial
    refine ⟨trivial, fun hi => ⟨⟨hl, hx⟩, fun he => ?_, fun he => ⟨?_, fun k9 => ⟨by ((unfold InR; omega)), ?_, ?_, ?_⟩, fun k9 => ⟨fun k18 => ⟨by ((unfold InR; omega)), ?_, ?_, ?_⟩, fun k18 => ?_⟩⟩⟩, fun hi => ?_⟩
    · rw [loopM_next _ _ hi] at hL
      rw [show kidM l (mean l (d.toNat - 1)) (mean l (d.toNat - 2)) x i w = (Tree.nil, w, (kidX l x i).2) by unfold kidM; rw [if_neg he]] at hL
      rw [if_neg he] at hL
      exact hr2 hL.symm (by (repeat' (first | exact trivial | exact rfl | refine And.intro ?_ ?_)))
    · rw [hy2]; exact ⟨hl, hkx⟩
    · rw [hy2]
      refine ⟨hl, hkx, by dsimp only; omega, w0, by dsimp only; omega, ?_, ?_⟩
      · have : kidsX x = x.count := by unfold kidsX; rw [if_neg (by omega)]
        have := hdd.2 k9 (by omega)
        show 0 ≤ d - 2
        omega
      · show (kidX l x i).1.kind = 1
        unfold kidX
        rw [if_neg (by omega), if_neg (by omega), if_neg (by omega), if_pos k9]
    · show 2 * (d - 2).toNat + 2 < N
      have : kidsX x = x.count := by unfold kidsX; rw [if_neg (by omega)]
      have := hdd.2 k9 (by omega)
      omega
    · rw [show (d - 2).toNat = d.toNat - 2 by omega, hy2]
      exact key _ _ hi (by unfold kidM; rw [if_pos he, if_pos k9]) _ (fun p h h' => ⟨p, rfl, h, h'⟩)
    · rw [hy2]; exact ⟨hl, hkx, by dsimp only; omega, w0, by dsimp only; omega⟩
    · show 2 * (d - 1).toNat + 1 < N
      omega
    · rw [show (d - 1).toNat = d.toNat - 1 by omega, hy2]
      exact key _ _ hi (by unfold kidM; rw [if_pos he, if_neg k9, if_pos k18]) _ (fun p h h' => ⟨p, rfl, h, h'⟩)
    · rw [hy2, he]
      exact key (⟨(kidX l x i).1.kind, wordsX l (kidX l x i).1, []⟩, w, 0) _ hi (by unfold kidM; rw [if_pos he, if_neg k9, if_neg (by omega)]) _ (fun p h h' => ⟨p, rfl, h, h'⟩)
    · rw [show (kidsX x - i).toNat = 0 by omega] at hL
      exact hr2 (acc := acc) (w := w) (e := 0) hL.symm (by (repeat' (first | exact trivial | exact rfl | refine And.intro ?_ ?_)))
  have cut0 : ∀ n : Int, (x.kind ≠ 9 → n = ownX x) → ¬x.kind = 0 → (1 ≤ d ∧ (x.kind = 9 → 0 < x.count → 2 ≤ d)) → A78 N [1, 1, 1, 1, 1, 1] (head78_0 l x d left n) (EndsQ cfg Try.f78.ntmps Try.f78.results.toList (res78 (l, x, d, left, ())) []) := by
    intro n hn hk0 hdd
    refine vc78_c0 _ _ _ _ _ _ _ ?_
    (simp only [vcT, bif_tl, bif_fr, bif_tlf, bif_frf, Bool.not_eq_true', Bool.not_eq_false', decide_eq_true_eq, decide_eq_false_iff_not, beq_iff_eq, beq_eq_false_iff_ne, bne_iff_ne, ne_eq, bne_eq_false_iff_eq, Bool.or_eq_true, Bool.and_eq_true, Bool.or_eq_false_iff, Bool.and_eq_false_imp])
    have e3 := Int.mul_nonneg hct.1 (show 0 ≤ 1 + x.data + x.ptrs by omega)
    have e4 := Int.mul_le_mul (Int.le_of_lt hct.2) (show 1 + x.data + x.ptrs ≤ 131072 by omega) (by omega) (by decide : (0 : Int) ≤ 536870912)
    refine ⟨fun k9 => ⟨by ((unfold InR; omega)), by ((unfold InR; omega)), by ((unfold InR; omega)), by ((unfold InR; omega)), ?_⟩, fun k9 => ?_⟩
    · rw [show 1 + x.count * (1 + x.data + x.ptrs) = ownX x by unfold ownX; rw [if_neg (by omega), if_pos k9]]
      exact cut1 hk0 hdd
    · rw [hn k9]
      exact cut1 hk0 hdd
  refine vc78 _ _ _ _ _ _ ?_
  rintro y1 hy1
  replace hy1 := hy1.symm
  dsimp only at hy1
  subst hy1
  (simp only [vcT, bif_tl, bif_fr, bif_tlf, bif_frf, Bool.not_eq_true', Bool.not_eq_false', decide_eq_true_eq, decide_eq_false_iff_not, beq_iff_eq, beq_eq_false_iff_ne, bne_iff_ne, ne_eq, bne_eq_false_iff_eq, Bool.or_eq_true, Bool.and_eq_true, Bool.or_eq_false_iff, Bool.and_eq_false_imp])
  refine ⟨⟨hl, hx⟩, fun h => ?_, fun hk0 => ⟨fun a b => ⟨a, b⟩, fun a b => ⟨a, b⟩, fun h => ?_, fun h => ⟨trivial, ?_, fun k1 => ⟨by ((unfold InR; omega)), by ((unfold InR; omega)), ?_⟩, fun k1 => ?_⟩⟩⟩
  · refine hr (T := ⟨0, wordsX l x, []⟩) (w := left) (e := 0) ?_ ?_
    · rw [show x = xz from hx.null h, mean_null]; rfl
    · rw [h]; (repeat' (first | exact trivial | exact rfl | refine And.intro ?_ ?_))
  · refine hr (T := ⟨x.kind, wordsX l x, []⟩) (w := left) (e := 3) ?_ (by (repeat' (first | exact trivial | exact rfl | refine And.intro ?_ ?_)))
    by_cases hD : 1 ≤ d.toNat
    · rw [mean_eq hD]
      unfold stepM
      rw [if_neg hk0, if_pos]
      rcases h with h | h
      · omega
      · exact .inr (.inl ⟨h.1.1, h.1.2, by omega⟩)
    · rw [show d.toNat = 0 by omega, mean_zero, if_neg hk0]
  · have hk29 : kidsX x < 536870912 := by unfold kidsX; split <;> omega
    ((unfold InR; omega))
  · exact cut0 _ (fun _ => by unfold ownX; rw [if_pos k1]) hk0 ⟨by omega, fun a b => by omega⟩
  · exact cut0 _ (fun k9 => by unfold ownX kidsX; rw [if_neg k1, if_neg k9, if_neg k1]) hk0 ⟨by omega, fun a b => by omega⟩

theorem c78_ : Contract Try.prog cfg 78 spec78 ∧ Contract Try.prog cfg 109 spec109 := make78_109 c67 c29 c30 b78 b109
theorem c78 : Contract Try.prog cfg 78 spec78 := c78_.1

end Go.AM.Ythokdjgpdonhgaa

namespace Go.AM.Ythokdjgpdonhgaa
open Go.AM Go.Proofs

def args42 : ArgL (Unit) := .nil
def pre42 (a : Unit) : Prop := True
noncomputable def res42 (a : Unit) : V U := .c (.bool true)
noncomputable def spec42 : Fs U := fs args42 (fun a => [pre42 a]) res42

def args8 : ArgL (List (List Int) × Limits × Unit) := (.cons (aSl .words) (.cons (aEl .limits) .nil))
def pre8 (a : List (List Int) × Limits × Unit) : Prop := okSeg a.1
noncomputable def res8 (a : List (List Int) × Limits × Unit) : V U := .c (.bool true)
noncomputable def spec8 : Fs U := fs args8 (fun a => [pre8 a]) res8

noncomputable def know42 : List (FuncId × Fs U) := [(20, spec20), (40, spec40)]
def lv42 : Lives U := fun i => match i with
  | 0 => ([], [])
  | 1 => ([(1, [])], [])
  | 2 => ([(1, []), (2, []), (3, [])], [])
  | 3 => ([(2, []), (3, []), (5, [])], [])
  | 4 => ([(0, [])], [])
  | _ => ([], [])
noncomputable abbrev A42 (p : List Nat) := awp cfg (know know42) (drawOk cfg (know know42)) Try.f42.ntmps lv42 (cd Try.f42 p)
theorem vc42 (Q : AExit → LSt U → Prop) (h : ((pre20 (([[4294967296, 7]]), ())) ∧ ((pre40 ((some (Arena.mk ([[4294967296, 7]]) 0 0 0)), (Limits.mk 1 2 0 0), ())) ∧ ((pre40 ((some (Arena.mk ([[4294967296, 7]]) 0 0 0)), (Limits.mk 1 1 0 0), ())) ∧ ((Tr (((((unfV (segO (some (Arena.mk ([[4294967296, 7]]) 0 0 0))) (Limits.mk 1 2 0 0)).2.1) : Int) == 2) = true)) ∧ ((Tr (((((unfV (segO (some (Arena.mk ([[4294967296, 7]]) 0 0 0))) (Limits.mk 1 2 0 0)).2.1) : Int) == 2) = true))) ∧ (Tr ((bif ((((unfV (segO (some (Arena.mk ([[4294967296, 7]]) 0 0 0))) (Limits.mk 1 2 0 0)).2.1) : Int) == 2) then ((((unfV (segO (some (Arena.mk ([[4294967296, 7]]) 0 0 0))) (Limits.mk 1 2 0 0)).2.2) : Int) == 0) else false) = true)) ∧ ((Tr ((bif ((((unfV (segO (some (Arena.mk ([[4294967296, 7]]) 0 0 0))) (Limits.mk 1 2 0 0)).2.1) : Int) == 2) then ((((unfV (segO (some (Arena.mk ([[4294967296, 7]]) 0 0 0))) (Limits.mk 1 2 0 0)).2.2) : Int) == 0) else false) = true))) ∧ (Q .ret (⟨[(0, .c (.bool (bif (bif ((((unfV (segO (some (Arena.mk ([[4294967296, 7]]) 0 0 0))) (Limits.mk 1 2 0 0)).2.1) : Int) == 2) then ((((unfV (segO (some (Arena.mk ([[4294967296, 7]]) 0 0 0))) (Limits.mk 1 2 0 0)).2.2) : Int) == 0) else false) then ((((unfV (segO (some (Arena.mk ([[4294967296, 7]]) 0 0 0))) (Limits.mk 1 1 0 0)).2.2) : Int) == 3) else false)))], [], []⟩ : LSt U))))))) :
    A42 [] (⟨[], [], []⟩ : LSt U) Q :=
  Eq.mpr (by kernel_rfl) h
def Body42  : Prop := awp cfg (know (know42)) (drawOk cfg (know (know42))) Try.f42.ntmps lv42 (cd Try.f42 []) (entry (args42.can (())) []) (EndsQ cfg Try.f42.ntmps Try.f42.results.toList (res42 (())) [])
theorem make42 (c20 : Contract Try.prog cfg 20 spec20) (c40 : Contract Try.prog cfg 40 spec40) (hb : ∀ (_ : Unit), pre42 (()) → Body42 ) : Contract Try.prog cfg 42 spec42 :=
  contract_flat (l := [(20, spec20), (40, spec40)]) cfgOk rfl (⟨c20, c40, trivial⟩) lv42 Try.func42 rfl rfl 0 (fun _ => rfl) (by decide) (fun _ => hb  ())

noncomputable def know8 : List (FuncId × Fs U) := [(39, spec39), (20, spec20), (40, spec40), (41, spec41), (42, spec42)]
def lv8 : Lives U := fun i => match i with
  | 0 => ([(0, []), (3, [])], [((.loc 3), [])])
  | 1 => ([(0, []), (3, [])], [((.loc 3), [])])
  | 2 => ([(0, []), (3, []), (5, []), (6, [])], [((.loc 3), [])])
  | 3 => ([(5, []), (6, []), (8, []), (9, [])], [])
  | 4 => ([(4, [])], [])
  | _ => ([], [])
noncomputable abbrev A8 (p : List Nat) := awp cfg (know know8) (drawOk cfg (know know8)) Try.f8.ntmps lv8 (cd Try.f8 p)
theorem vc8 (l : List (List Int)) (x : Limits) (Q : AExit → LSt U → Prop) (h : ∀ y_1, y_1 = (x) → ∀ y_2, y_2 = ((lightV y_1)) → ((pre39 (y_1, ())) ∧ ((pre20 (l, ())) ∧ (pre40 ((some (Arena.mk l 0 0 0)), y_2, ())) ∧ ((pre41 (l, y_2, ())) ∧ ((Tr (((((unfV (segO (some (Arena.mk l 0 0 0))) y_2).2.1) : Int) == ((unfV l y_2).2.1)) = true)) ∧ (Tr (((((unfV (segO (some (Arena.mk l 0 0 0))) y_2).2.1) : Int) == ((unfV l y_2).2.1)) = true)) ∧ ((Tr (((((unfV (segO (some (Arena.mk l 0 0 0))) y_2).2.1) : Int) == ((unfV l y_2).2.1)) = true))) ∧ ((bif ((((unfV (segO (some (Arena.mk l 0 0 0))) y_2).2.1) : Int) == ((unfV l y_2).2.1)) then ((((unfV (segO (some (Arena.mk l 0 0 0))) y_2).2.2) : Int) == ((unfV l y_2).2.2)) else false) = true → pre42 (())) ∧ ((Tr ((bif ((((unfV (segO (some (Arena.mk l 0 0 0))) y_2).2.1) : Int) == ((unfV l y_2).2.1)) then ((((unfV (segO (some (Arena.mk l 0 0 0))) y_2).2.2) : Int) == ((unfV l y_2).2.2)) else false) = true))) ∧ (Q .ret (⟨[(4, .c (.bool (bif (bif ((((unfV (segO (some (Arena.mk l 0 0 0))) y_2).2.1) : Int) == ((unfV l y_2).2.1)) then ((((unfV (segO (some (Arena.mk l 0 0 0))) y_2).2.2) : Int) == ((unfV l y_2).2.2)) else false) then true else false)))], [], []⟩ : LSt U))))))) :
    A8 [] (⟨[(0, .c (.slice (U := U) .words l .unk)), (1, .agg [.int .i64 (Limits.depth x), .int .i64 (Limits.weight x), .int .i64 (Limits.maxD x), .int .i64 (Limits.maxOut x)])], [], []⟩ : LSt U) Q :=
  Eq.mpr (by kernel_rfl) (h _ (reLimits_eq _) _ (reLimits_eq _))
def Body8 (l : List (List Int)) (x : Limits)  : Prop := awp cfg (know (know8)) (drawOk cfg (know (know8))) Try.f8.ntmps lv8 (cd Try.f8 []) (entry (args8.can (l, x, ())) []) (EndsQ cfg Try.f8.ntmps Try.f8.results.toList (res8 (l, x, ())) [])
theorem make8 (c39 : Contract Try.prog cfg 39 spec39) (c20 : Contract Try.prog cfg 20 spec20) (c40 : Contract Try.prog cfg 40 spec40) (c41 : Contract Try.prog cfg 41 spec41) (c42 : Contract Try.prog cfg 42 spec42) (hb : ∀ (l : List (List Int)) (x : Limits) (_ : Unit), pre8 (l, x, ()) → Body8 l x) : Contract Try.prog cfg 8 spec8 :=
  contract_flat (l := [(39, spec39), (20, spec20), (40, spec40), (41, spec41), (42, spec42)]) cfgOk rfl (⟨c39, c20, c40, c41, c42, trivial⟩) lv8 Try.func8 rfl rfl 2 (fun _ => rfl) (by decide) (fun ⟨l, x, _⟩ => hb l x ())

end Go.AM.Ythokdjgpdonhgaa

namespace Go.AM.Ythokdjgpdonhgaa
open Go.AM Go.Proofs

theorem c41 : Contract Try.prog cfg 41 spec41 := by
  refine make41 c47 c27 c78 ?_
  intro l x _ hl
  simp only [pre41] at hl
  refine vc41 _ _ _ ?_
  rintro y hy z hz m hm
  dsimp only at hy hz hm
  replace hy := hy.symm
  subst hy
  have hx := okX_at hl 0 0
  have hlv := limV_ok x
  (simp only [vcT, bif_tl, bif_fr, bif_tlf, bif_frf, Bool.not_eq_true', Bool.not_eq_false', decide_eq_true_eq, decide_eq_false_iff_not, beq_iff_eq, beq_eq_false_iff_ne, bne_iff_ne, ne_eq, bne_eq_false_iff_eq, Bool.or_eq_true, Bool.and_eq_true, Bool.or_eq_false_iff, Bool.and_eq_false_imp])
  have hr : ∀ {T : Tree} {w e : Int}, unfV l x = (T, w, e) → ∀ {s : LSt U},
      EndsQ cfg Try.f41.ntmps Try.f41.results.toList (.tup [(true, enc .tree T), (false, [.int .i64 w]), (false, [.int .i64 e])]) [] .ret s → EndsQ cfg Try.f41.ntmps Try.f41.results.toList (res41 (l, x, ())) [] .ret s := by
    intro T w e he s hs
    refine ends_eq ?_ hs
    simp only [res41]
    rw [he]
    rfl
  have hwf := mean_fine hl (limV x).depth.toNat _ (limV x).weight hx hlv.2.2.1
  rw [← hz, ← hm] at hwf
  refine ⟨trivial, hl, fun h => ?_, fun h => ?_⟩
  · exact hr (T := Tree.nil) (w := 0) (e := (refAt l 0 0).2) (by unfold unfV; rw [if_neg h]) (by (repeat' (first | exact trivial | exact rfl | refine And.intro ?_ ?_)))
  · refine ⟨⟨hl, by rw [hz]; exact hx, hlv.2.1, hlv.2.2⟩, fun h2 => ?_, fun h2 => ⟨by have := hwf.1; have := hwf.2; ((unfold InR; omega)), ?_⟩⟩
    · exact hr (T := Tree.nil) (w := 0) (e := m.2.2) (by unfold unfV; rw [if_pos h, ← hz, ← hm, if_neg h2]) (by (repeat' (first | exact trivial | exact rfl | refine And.intro ?_ ?_)))
    · exact hr (T := m.1) (w := (limV x).weight - m.2.1) (e := 0) (by unfold unfV; rw [if_pos h, ← hz, ← hm, if_pos h2]) (by (repeat' (first | exact trivial | exact rfl | refine And.intro ?_ ?_)))

theorem c42 : Contract Try.prog cfg 42 spec42 := by
  refine make42 c20 c40 ?_
  intro _ _
  refine vc42 _ ?_
  have e1 : unfV (segO (some (Arena.mk [[4294967296, 7]] 0 0 0))) (Limits.mk 1 2 0 0) = (⟨1, [7], []⟩, 2, 0) := by rfl
  have e2 : unfV (segO (some (Arena.mk [[4294967296, 7]] 0 0 0))) (Limits.mk 1 1 0 0) = (Tree.nil, 0, 3) := by rfl
  rw [e1, e2]
  (simp only [vcT, bif_tl, bif_fr, bif_tlf, bif_frf, Bool.not_eq_true', Bool.not_eq_false', decide_eq_true_eq, decide_eq_false_iff_not, beq_iff_eq, beq_eq_false_iff_ne, bne_iff_ne, ne_eq, bne_eq_false_iff_eq, Bool.or_eq_true, Bool.and_eq_true, Bool.or_eq_false_iff, Bool.and_eq_false_imp])
  refine ⟨aw_ok, aw_ok, aw_ok, ?_⟩
  exact ends_bool rfl rfl

theorem c8 : Contract Try.prog cfg 8 spec8 := by
  refine make8 c39 c20 c40 c41 c42 ?_
  intro l x _ hl
  simp only [pre8] at hl
  refine vc8 _ _ _ ?_
  rintro y1 h1 y2 h2
  have hA : segO (some (Arena.mk l 0 0 0)) = l := rfl
  rw [hA]
  (simp only [vcT, bif_tl, bif_fr, bif_tlf, bif_frf, Bool.not_eq_true', Bool.not_eq_false', decide_eq_true_eq, decide_eq_false_iff_not, beq_iff_eq, beq_eq_false_iff_ne, bne_iff_ne, ne_eq, bne_eq_false_iff_eq, Bool.or_eq_true, Bool.and_eq_true, Bool.or_eq_false_iff, Bool.and_eq_false_imp])
  refine ⟨trivial, hl, hl, hl, trivial, ends_bool rfl ?_⟩
  simp

end Go.AM.Ythokdjgpdonhgaa
