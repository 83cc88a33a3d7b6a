import Derived.Test.YthokdjgpdonhgaaQGb
set_option linter.unusedSimpArgs false
set_option linter.unusedVariables false
namespace Go.AM.Ythokdjgpdonhgaa
open Go.AM Go.Proofs

theorem ends_eq2 {n : Nat} {rs : List ResultVar} {r r' : V U} {X X' : List (List (C U))} {e : AExit} {s : LSt U} (hr : r = r') (hX : X = X') (h : EndsQ cfg n rs r' X' e s) : EndsQ cfg n rs r X e s := by rw [hr, hX]; exact h

theorem clamp_min (n t : Int) (ht : 0 ≤ t) : (if t < (if n < 0 then 0 else n) then t else (if n < 0 then 0 else n)) = clampI n t := by
  unfold clampI
  (repeat' split) <;> omega

theorem c45 : Contract Try.prog cfg 45 spec45 := by
  refine make45 ?_
  intro x _ _
  refine vc45 _ _ ?_
  refine ends_eq (r' := .agg [.int .i64 (if (64 : Int) < (if x.depth < 0 then 0 else x.depth) then 64 else (if x.depth < 0 then 0 else x.depth)), .int .i64 (if (65536 : Int) < (if x.weight < 0 then 0 else x.weight) then 65536 else (if x.weight < 0 then 0 else x.weight)), .int .i64 (if (4096 : Int) < (if x.maxD < 0 then 0 else x.maxD) then 4096 else (if x.maxD < 0 then 0 else x.maxD)), .int .i64 (if (131072 : Int) < (if x.maxOut < 0 then 0 else x.maxOut) then 131072 else (if x.maxOut < 0 then 0 else x.maxOut))]) ?_ (by (repeat' (first | exact trivial | exact rfl | refine And.intro ?_ ?_)))
  rw [clamp_min _ _ (by decide), clamp_min _ _ (by decide), clamp_min _ _ (by decide), clamp_min _ _ (by decide)]
  rfl

theorem c107 : Contract Try.prog cfg 107 spec107 := by
  refine make107 ?_
  intro k _ _
  refine vc107 _ _ ?_
  (simp only [vcT, bif_tl, bif_fr, bif_tlf, bif_frf, Bool.not_eq_true', Bool.not_eq_false', decide_eq_true_eq, decide_eq_false_iff_not, beq_iff_eq, beq_eq_false_iff_ne, bne_iff_ne, ne_eq, bne_eq_false_iff_eq, Bool.or_eq_true, Bool.and_eq_true, Bool.or_eq_false_iff, Bool.and_eq_false_imp])
  refine ends_bool rfl ?_
  rw [Bool.eq_iff_iff]
  (simp only [vcT, bif_tl, bif_fr, bif_tlf, bif_frf, Bool.not_eq_true', Bool.not_eq_false', decide_eq_true_eq, decide_eq_false_iff_not, beq_iff_eq, beq_eq_false_iff_ne, bne_iff_ne, ne_eq, bne_eq_false_iff_eq, Bool.or_eq_true, Bool.and_eq_true, Bool.or_eq_false_iff, Bool.and_eq_false_imp])

theorem c106 : Contract Try.prog cfg 106 spec106 := by
  refine make106 c22 c59 c23 c68 ?_
  intro r _ hp
  obtain ⟨ha, hx⟩ := hp
  dsimp only at ha hx
  have hd := hx.data
  have hq := hx.ptrs
  have hc := hx.count
  simp only [unX] at hd hq hc
  refine vc106 _ _ ?_
  rintro y hy
  dsimp only at hy
  replace hy := hy.symm
  subst hy
  (simp only [vcT, bif_tl, bif_fr, bif_tlf, bif_frf, Bool.not_eq_true', Bool.not_eq_false', decide_eq_true_eq, decide_eq_false_iff_not, beq_iff_eq, beq_eq_false_iff_ne, bne_iff_ne, ne_eq, bne_eq_false_iff_eq, Bool.or_eq_true, Bool.and_eq_true, Bool.or_eq_false_iff, Bool.and_eq_false_imp])
  refine ⟨trivial, fun h1 => ?_, fun h1 => ⟨trivial, fun h9 => ?_, fun h9 => ?_⟩⟩
  · have e1 : lenR r = r.data := by unfold lenR; rw [if_pos h1]
    have e2 : kidsR r = r.kids := by unfold kidsR; rw [if_pos h1]
    rw [e1, e2]
    refine ⟨trivial, by ((unfold InR; omega)), trivial, by ((unfold InR; omega)), ends_int rfl ?_⟩
    show _ = ownX (unX r)
    unfold ownX
    rw [if_pos (show (unX r).kind = 1 from h1)]
    rfl
  · have e2 : kidsR r = r.count := by unfold kidsR; rw [if_neg h1]
    rw [e2, if_pos h9, if_pos h9]
    have e3 := Int.mul_nonneg hc.1 (show 0 ≤ 1 + r.data + r.kids by omega)
    have e4 := Int.mul_le_mul (Int.le_of_lt hc.2) (show 1 + r.data + r.kids ≤ 131072 by omega) (by omega) (by decide : (0 : Int) ≤ 536870912)
    refine ⟨trivial, trivial, by ((unfold InR; omega)), by ((unfold InR; omega)), by ((unfold InR; omega)), by ((unfold InR; omega)), ends_int rfl ?_⟩
    show _ = ownX (unX r)
    unfold ownX
    rw [if_neg (show ¬(unX r).kind = 1 from h1), if_pos (show (unX r).kind = 9 from h9)]
    rfl
  · have e2 : kidsR r = r.count := by unfold kidsR; rw [if_neg h1]
    rw [e2]
    refine ⟨trivial, by ((unfold InR; omega)), ends_int rfl ?_⟩
    show _ = ownX (unX r)
    unfold ownX
    rw [if_neg (show ¬(unX r).kind = 1 from h1), if_neg (show ¬(unX r).kind = 9 from h9)]
    rfl

theorem c105 : Contract Try.prog cfg 105 spec105 := by
  refine make105 ?_
  intro u t n _ hp
  obtain ⟨h0, h1, h2, h3⟩ := hp
  dsimp only at h0 h1 h2 h3
  refine vc105 _ _ _ _ ?_
  (simp only [vcT, bif_tl, bif_fr, bif_tlf, bif_frf, Bool.not_eq_true', Bool.not_eq_false', decide_eq_true_eq, decide_eq_false_iff_not, beq_iff_eq, beq_eq_false_iff_ne, bne_iff_ne, ne_eq, bne_eq_false_iff_eq, Bool.or_eq_true, Bool.and_eq_true, Bool.or_eq_false_iff, Bool.and_eq_false_imp])
  refine ⟨by ((unfold InR; omega)), fun h => ?_, fun h => ⟨by ((unfold InR; omega)), ?_⟩⟩
  · refine ends_eq2 (r' := .c (.bool false)) (X' := [[.int .i64 u, .int .i64 t]]) ?_ ?_ (by (repeat' (first | exact trivial | exact rfl | refine And.intro ?_ ?_)))
    · simp only [res105]; rw [decide_eq_false (by omega)]
    · simp only [resX105]; rw [if_neg (by omega)]
  · refine ends_eq2 (r' := .c (.bool true)) (X' := [[.int .i64 (u + n), .int .i64 t]]) ?_ ?_ (by (repeat' (first | exact trivial | exact rfl | refine And.intro ?_ ?_)))
    · simp only [res105]; rw [decide_eq_true (by omega)]
    · simp only [resX105]; rw [if_pos (by omega)]

theorem loopM_acc (f : Int → Int → Tree × Int × Int) : ∀ (n : Nat) (i left : Int) (acc acc' : List Tree), (loopM f n i left acc).2 = (loopM f n i left acc').2
  | 0, _, _, _, _ => rfl
  | n + 1, i, left, acc, acc' => by
    simp only [loopM]
    split
    · exact loopM_acc f n _ _ _ _
    · rfl

theorem loopM_step (f : Int → Int → Tree × Int × Int) {n : Int} {i left : Int} (hi : i < n) : (loopM f (n - i).toNat i left []).2 = if (f i left).2.2 = 0 then (loopM f (n - (i + 1)).toNat (i + 1) (f i left).2.1 []).2 else (f i left).2 := by
  rw [show (n - i).toNat = (n - (i + 1)).toNat + 1 by omega]
  simp only [loopM]
  split
  · exact loopM_acc f _ _ _ _ _
  · rfl

theorem mean_null (l : List (List Int)) (d : Nat) (left : Int) : mean l d xz left = (⟨0, [], []⟩, left, 0) := by
  match d with
  | 0 => rfl
  | 1 => rfl
  | d + 2 => rfl

theorem mean_lift {a : Option Arena} {x : XRef} (h : OkX (segO a) x) (d : Nat) (left : Int) : mean (segO (liftX a x).a) d (unX (liftX a x)) left = mean (segO a) d x left := by
  rw [unX_lift h]
  by_cases h0 : x.kind = 0
  · rw [h.null h0, mean_null, mean_null]
  · rw [a_lift h0]

theorem kidV_18 {l : List (List Int)} {d : Nat} {m' : XRef → Int → Tree × Int × Int} {x : XRef} {i left : Int} (h : x.kind = 1 ∨ x.kind = 8) : (kidM l (mean l d) m' x i left).2 = kidV l d x i left := by
  unfold kidM kidV
  split
  · have h9 : ¬x.kind = 9 := by omega
    simp [h9, h]
  · rfl

theorem kidV_9 {l : List (List Int)} {d : Nat} {m : XRef → Int → Tree × Int × Int} {x : XRef} {i left : Int} (h : x.kind = 9) : (kidM l m (mean l d) x i left).2 = kidV l d x i left := by
  unfold kidM kidV
  split
  · simp [h]
  · rfl

theorem kidM_data {l : List (List Int)} {m m' : XRef → Int → Tree × Int × Int} {x : XRef} {i left : Int} (h : 2 ≤ x.kind ∧ x.kind ≤ 7 ∨ x.kind = 10) : (kidM l m m' x i left).2 = (left, 0) := by
  have hk : (kidX l x i).2 = 0 := by
    unfold kidX
    split
    · rfl
    · rw [if_neg (by omega), if_neg (by omega), if_neg (by omega)]
  unfold kidM
  rw [if_pos hk, if_neg (by omega), if_neg (by omega)]

theorem loopM_data {f : Int → Int → Tree × Int × Int} (hf : ∀ i left, (f i left).2 = (left, 0)) : ∀ (n : Nat) (i left : Int) (acc : List Tree), (loopM f n i left acc).2 = (left, 0)
  | 0, _, _, _ => rfl
  | n + 1, i, left, acc => by
    simp only [loopM, hf]
    rw [if_pos trivial]
    exact loopM_data hf n _ _ _

theorem kidV_fine {l : List (List Int)} (hl : okSeg l) {d : Nat} {x : XRef} (hx : OkX l x) {i left : Int} (h : 0 ≤ left) : 0 ≤ (kidV l d x i left).1 ∧ (kidV l d x i left).1 ≤ left := by
  unfold kidV
  split
  · split
    · exact kidsM_fine hl (mean_fine hl d) (okX_kid hl hx i) left h
    · exact mean_fine hl d _ _ (okX_kid hl hx i) h
  · exact ⟨h, Int.le_refl _⟩
theorem b77 : HB77 := by
  intro N u t r d _ hp hN
  obtain ⟨⟨ha, hx⟩, h0, h1, h2, hd0, hd⟩ := hp
  dsimp only at ha hx h0 h1 h2 hd0 hd
  have hN' : 3 * d.toNat < N + 1 := hN
  have hok : okR r := ⟨ha, hx⟩
  have hkl := kidsX_le hx
  have hop := ownX_pos hx
  refine vc77 _ _ _ _ _ _ ?_
  rintro y hy
  dsimp only at hy
  replace hy := hy.symm
  subst hy
  have hr : ∀ {e w : Int}, (mean (segO r.a) d.toNat (unX r) (t - u)).2 = (w, e) → ∀ {s : LSt U}, EndsQ cfg Try.f77.ntmps Try.f77.results.toList (.c (.int .i64 e)) [[.int .i64 (t - w), .int .i64 t]] .ret s →
      EndsQ cfg Try.f77.ntmps Try.f77.results.toList (res77 ((u, t, ()), r, d, ())) (resX77 ((u, t, ()), r, d, ())) .ret s := by
    intro e w he s hs
    refine ends_eq2 ?_ ?_ hs
    · simp only [res77]; rw [he]
    · simp only [resX77]; rw [he]
  have cut : ∀ x7 : Int, (x7 = d - 1 ∧ (r.kind ≠ 9 ∨ kidsR r ≤ 0) ∨ x7 = d - 2 ∧ r.kind = 9 ∧ 0 < kidsR r) → r.kind ≠ 0 →
      A77 N [1, 1, 1, 1] (head77_0 u t r d x7) (EndsQ cfg Try.f77.ntmps Try.f77.results.toList (res77 ((u, t, ()), r, d, ())) (resX77 ((u, t, ()), r, d, ()))) := by
    intro x7 hx7 hk0
    refine vc77_c0 _ _ _ _ _ _ _ ?_
    rintro y hy
    replace hy := hy.symm
    subst hy
    (simp only [vcT, bif_tl, bif_fr, bif_tlf, bif_frf, Bool.not_eq_true', Bool.not_eq_false', decide_eq_true_eq, decide_eq_false_iff_not, beq_iff_eq, beq_eq_false_iff_ne, bne_iff_ne, ne_eq, bne_eq_false_iff_eq, Bool.or_eq_true, Bool.and_eq_true, Bool.or_eq_false_iff, Bool.and_eq_false_imp])
    have herr : ∀ e : Int, (d < 1 ∨ x7 < 0) ∨ ¬ownX (unX r) ≤ t - u → (mean (segO r.a) d.toNat (unX r) (t - u)).2 = (t - u, 3) := by
      intro e h
      by_cases h1 : 1 ≤ d.toNat
      · rw [mean_eq h1]
        unfold stepM
        rw [if_neg (show ¬(unX r).kind = 0 from hk0), if_pos]
        rcases h with (h | h) | h
        · omega
        · refine .inr (.inl ⟨?_, ?_, by omega⟩)
          · show r.kind = 9; omega
          · show 0 < r.count
            have : r.kind = 9 ∧ 0 < kidsR r := by omega
            have hk := this.2
            unfold kidsR at hk
            rw [if_neg (by omega)] at hk
            exact hk
        · exact .inr (.inr (by omega))
      · rw [show d.toNat = 0 by omega, mean_zero, if_neg (show ¬(unX r).kind = 0 from hk0)]
    refine ⟨fun _ => hok, fun _ => ⟨h0, h1, h2, by show 0 ≤ ownX (unX r); omega⟩, fun h => ?_, fun h => ?_⟩
    · refine hr (herr 0 h) ?_
      have e1 : (bif !bif decide (d < 1) then true else decide (x7 < 0) then if ownX (unX r) ≤ t - u then u + ownX (unX r) else u else u) = t - (t - u) := by
        by_cases a1 : d < 1
        · simp [a1]; omega
        · by_cases a2 : x7 < 0
          · simp [a1, a2]; omega
          · rw [if_neg (by omega)]; simp [a1, a2]; omega
      have e2 : (bif !bif decide (d < 1) then true else decide (x7 < 0) then t else t) = t := by cases (!bif decide (d < 1) then true else decide (x7 < 0)) <;> rfl
      rw [e1, e2]
      (repeat' (first | exact trivial | exact rfl | refine And.intro ?_ ?_))
    · have e1 : (bif !bif decide (d < 1) then true else decide (x7 < 0) then if ownX (unX r) ≤ t - u then u + ownX (unX r) else u else u) = u + ownX (unX r) := by
        rw [if_pos h.2]; simp [h.1.1, h.1.2]
      have e2 : (bif !bif decide (d < 1) then true else decide (x7 < 0) then t else t) = t := by cases (!bif decide (d < 1) then true else decide (x7 < 0)) <;> rfl
      rw [e1, e2]
      have hD : 1 ≤ d.toNat := by omega
      have hM : (mean (segO r.a) d.toNat (unX r) (t - u)).2 = (loopM (kidM (segO r.a) (mean (segO r.a) (d.toNat - 1)) (mean (segO r.a) (d.toNat - 2)) (unX r)) (kidsX (unX r)).toNat 0 (t - u - ownX (unX r)) []).2 := by
        rw [mean_eq hD]
        unfold stepM
        rw [if_neg (show ¬(unX r).kind = 0 from hk0), if_neg]
        rintro (q | q | q)
        · omega
        · have q1 : r.kind = 9 := q.1
          have q2 : 0 < r.count := q.2.1
          have : kidsR r = r.count := by unfold kidsR; rw [if_neg (by omega)]
          have := q.2.2
          omega
        · omega
      refine ⟨trivial, trivial, fun hk => ?_, fun hk => ⟨trivial, ?_⟩⟩
      · refine hr (w := t - u - ownX (unX r)) (e := 0) ?_ ?_
        · rw [hM]
          exact loopM_data (fun i left => kidM_data (.inl hk)) _ _ _ _
        · rw [show t - (t - u - ownX (unX r)) = u + ownX (unX r) by omega]
          (repeat' (first | exact trivial | exact rfl | refine And.intro ?_ ?_))
      · by_cases h10 : r.kind = 10
        · have hc0 : kidsR r = 0 := by
            unfold kidsR
            rw [if_neg (by omega)]
            exact hx.zero (.inr h10)
          refine loop_rule (ι := Int) (fun i => head77_1 u t r d x7 i (u + ownX (unX r)) t) (fun i => i = 0) (fun _ => 0) 0 rfl rfl ?_
          rintro i rfl
          refine vc77_l1 _ _ _ _ _ _ _ _ _ _ _ ?_
          rintro y1 hy1 y2 hy2
          replace hy1 := hy1.symm
          subst hy1
          (simp only [vcT, bif_tl, bif_fr, bif_tlf, bif_frf, Bool.not_eq_true', Bool.not_eq_false', decide_eq_true_eq, decide_eq_false_iff_not, beq_iff_eq, beq_eq_false_iff_ne, bne_iff_ne, ne_eq, bne_eq_false_iff_eq, Bool.or_eq_true, Bool.and_eq_true, Bool.or_eq_false_iff, Bool.and_eq_false_imp])
          refine ⟨fun hi => by omega, fun _ => ?_⟩
          refine hr (w := t - u - ownX (unX r)) (e := 0) ?_ ?_
          · rw [hM, ← kidsR_un, hc0]; rfl
          · rw [show t - (t - u - ownX (unX r)) = u + ownX (unX r) by omega]
            (repeat' (first | exact trivial | exact rfl | refine And.intro ?_ ?_))
        · have hk9 : r.kind = 1 ∨ r.kind = 8 ∨ r.kind = 9 := by
            have := hx.kind
            simp only [unX] at this
            omega
          have hf : ∀ i left : Int, i < kidsR r → (kidM (segO r.a) (mean (segO r.a) (d.toNat - 1)) (mean (segO r.a) (d.toNat - 2)) (unX r) i left).2 = kidV (segO r.a) x7.toNat (unX r) i left ∨ i < 0 := by
            intro i left hi
            by_cases hi0 : i < 0
            · exact .inr hi0
            left
            by_cases h9 : r.kind = 9
            · rw [show x7.toNat = d.toNat - 2 by omega]; exact kidV_9 h9
            · rw [show x7.toNat = d.toNat - 1 by omega]; exact kidV_18 (by show r.kind = 1 ∨ r.kind = 8; omega)
          refine loop_rule (ι := Int × Int) (fun p => head77_1 u t r d x7 p.1 p.2 t) (fun p => 0 ≤ p.1 ∧ p.1 ≤ kidsR r ∧ 0 ≤ p.2 ∧ p.2 ≤ t ∧ (loopM (kidM (segO r.a) (mean (segO r.a) (d.toNat - 1)) (mean (segO r.a) (d.toNat - 2)) (unX r)) (kidsR r - p.1).toNat p.1 (t - p.2) []).2 = (mean (segO r.a) d.toNat (unX r) (t - u)).2) (fun p => (kidsR r - p.1).toNat) (0, u + ownX (unX r)) rfl ⟨by simp, by rw [kidsR_un]; exact hkl.1, by dsimp only; omega, by dsimp only; omega, ?_⟩ ?_
          · dsimp only
            rw [hM, kidsR_un, Int.sub_zero, show t - (u + ownX (unX r)) = t - u - ownX (unX r) by omega]
          rintro ⟨i, w⟩ ⟨i0, i1, w0, w1, hL⟩
          dsimp only at i0 i1 w0 w1 hL
          refine vc77_l1 _ _ _ _ _ _ _ _ _ _ _ ?_
          rintro y1 hy1 y2 hy2
          replace hy1 := hy1.symm
          subst hy1
          (simp only [vcT, bif_tl, bif_fr, bif_tlf, bif_frf, Bool.not_eq_true', Bool.not_eq_false', decide_eq_true_eq, decide_eq_false_iff_not, beq_iff_eq, beq_eq_false_iff_ne, bne_iff_ne, ne_eq, bne_eq_false_iff_eq, Bool.or_eq_true, Bool.and_eq_true, Bool.or_eq_false_iff, Bool.and_eq_false_imp])
          refine ⟨fun hi => ⟨⟨hok, w0, w1, h2, by dsimp only; omega, by dsimp only; omega, hk9⟩, ?_, fun he => ?_, fun he => ⟨?_, (i + 1, t - y2.1), rfl, ?_, by dsimp only; omega⟩⟩, fun hi => ?_⟩
          · show 3 * x7.toNat + (if r.kind = 9 then 2 else 1) < N
            split <;> omega
          · rw [loopM_step _ hi, (hf i (t - w) hi).resolve_right (by omega), ← hy2, if_neg he] at hL
            exact hr (w := y2.1) (e := y2.2) hL.symm (by (repeat' (first | exact trivial | exact rfl | refine And.intro ?_ ?_)))
          · have := hx.ptrs
            have := hx.count
            have : kidsR r < 536870912 := by unfold kidsR; split; exact Int.lt_trans hx.ptrs.2 (by decide); exact hx.count.2
            ((unfold InR; omega))
          · have hfi := kidV_fine ha hx (d := x7.toNat) (i := i) (left := t - w) (by omega)
            rw [← hy2] at hfi
            rw [loopM_step _ hi, (hf i (t - w) hi).resolve_right (by omega), ← hy2, if_pos he] at hL
            refine ⟨by dsimp only; omega, by dsimp only; omega, by dsimp only; omega, by dsimp only; omega, ?_⟩
            dsimp only
            rw [show t - (t - y2.1) = y2.1 by omega, ← hL]
          · rw [show (kidsR r - i).toNat = 0 by omega] at hL
            refine hr (w := t - w) (e := 0) hL.symm ?_
            rw [show t - (t - w) = w by omega]
            (repeat' (first | exact trivial | exact rfl | refine And.intro ?_ ?_))
  (simp only [vcT, bif_tl, bif_fr, bif_tlf, bif_frf, Bool.not_eq_true', Bool.not_eq_false', decide_eq_true_eq, decide_eq_false_iff_not, beq_iff_eq, beq_eq_false_iff_ne, bne_iff_ne, ne_eq, bne_eq_false_iff_eq, Bool.or_eq_true, Bool.and_eq_true, Bool.or_eq_false_iff, Bool.and_eq_false_imp])
  refine ⟨trivial, fun hk => ?_, fun hk => ⟨?_, trivial, fun _ => trivial, fun h9 => ⟨?_, ?_⟩, fun h9 => ?_⟩⟩
  · refine hr (w := t - u) (e := 0) ?_ ?_
    · rw [show unX r = xz from hx.null hk, mean_null]
    · rw [show t - (t - u) = u by omega]
      (repeat' (first | exact trivial | exact rfl | refine And.intro ?_ ?_))
  · ((unfold InR; omega))
  · ((unfold InR; omega))
  · exact cut _ (.inr ⟨by omega, h9.1, h9.2⟩) hk
  · exact cut _ (.inl ⟨rfl, by omega⟩) hk

theorem kidsM_2 {l : List (List Int)} {d : Nat} {x : XRef} (hk : x.kind = 1) (left : Int) : (kidsM l (mean l d) x left).2 = (loopM (kidM l (mean l d) (fun _ left => (Tree.nil, left, 3)) x) x.ptrs.toNat 0 left []).2 := by
  unfold kidsM
  have : (fun j left => if (kidX l x j).2 = 0 then mean l d (kidX l x j).1 left else (Tree.nil, left, (kidX l x j).2)) = kidM l (mean l d) (fun _ left => (Tree.nil, left, 3)) x := by
    funext j left
    unfold kidM
    split
    · rw [if_neg (by omega), if_pos (.inl hk)]
    · rfl
  rw [this]

theorem b108 : HB108 := by
  intro N u t r i d _ hp hN
  obtain ⟨⟨ha, hx⟩, h0, h1, h2, hd0, hd, hk⟩ := hp
  dsimp only at ha hx h0 h1 h2 hd0 hd hk
  have hN' : 3 * d.toNat + (if r.kind = 9 then 2 else 1) < N + 1 := hN
  have hok : okR r := ⟨ha, hx⟩
  have hkx := okX_kid ha hx i
  refine vc108 _ _ _ _ _ _ _ ?_
  rintro y hy z hz
  dsimp only at hy hz
  replace hy := hy.symm
  subst hy
  have ea : (kidX (segO r.a) (unX r) i).1 = (kidX (segO r.a) (unX r) i).1 := rfl
  have hokz : okR z := by rw [hz]; exact okR_lift ha hkx
  have hr : ∀ {e w : Int}, kidV (segO r.a) d.toNat (unX r) i (t - u) = (w, e) → ∀ {s : LSt U}, EndsQ cfg Try.f108.ntmps Try.f108.results.toList (.c (.int .i64 e)) [[.int .i64 (t - w), .int .i64 t]] .ret s →
      EndsQ cfg Try.f108.ntmps Try.f108.results.toList (res108 ((u, t, ()), r, i, d, ())) (resX108 ((u, t, ()), r, i, d, ())) .ret s := by
    intro e w he s hs
    refine ends_eq2 ?_ ?_ hs
    · simp only [res108]; rw [he]
    · simp only [resX108]; rw [he]
  (simp only [vcT, bif_tl, bif_fr, bif_tlf, bif_frf, Bool.not_eq_true', Bool.not_eq_false', decide_eq_true_eq, decide_eq_false_iff_not, beq_iff_eq, beq_eq_false_iff_ne, bne_iff_ne, ne_eq, bne_eq_false_iff_eq, Bool.or_eq_true, Bool.and_eq_true, Bool.or_eq_false_iff, Bool.and_eq_false_imp])
  refine ⟨hok, fun he => ?_, fun he => ⟨trivial, fun k9 => ⟨⟨hokz, h0, h1, h2, hd0, hd⟩, ?_, ?_⟩, fun k9 => ⟨trivial, ?_⟩⟩⟩
  · refine hr (w := t - u) (e := (kidX (segO r.a) (unX r) i).2) (by unfold kidV; rw [if_neg he]) ?_
    rw [show t - (t - u) = u by omega]
    (repeat' (first | exact trivial | exact rfl | refine And.intro ?_ ?_))
  · show 3 * d.toNat < N
    rw [if_neg k9] at hN'
    omega
  · have hm : mean (segO z.a) d.toNat (unX z) (t - u) = mean (segO r.a) d.toNat (kidX (segO r.a) (unX r) i).1 (t - u) := by rw [hz]; exact mean_lift hkx _ _
    rw [hm]
    refine hr (w := (mean (segO r.a) d.toNat (kidX (segO r.a) (unX r) i).1 (t - u)).2.1) (e := (mean (segO r.a) d.toNat (kidX (segO r.a) (unX r) i).1 (t - u)).2.2) (by unfold kidV; rw [if_pos he, if_neg (show ¬(unX r).kind = 9 from k9)]) ?_
    (repeat' (first | exact trivial | exact rfl | refine And.intro ?_ ?_))
  · rw [if_pos k9] at hN'
    by_cases hki : i < 0 ∨ kidsX (unX r) ≤ i
    · have hz0 : (kidX (segO r.a) (unX r) i) = (xz, 0) := by unfold kidX; rw [if_pos hki]
      have hzz : z = refZ := by rw [hz, hz0]; rfl
      refine loop_rule (ι := Int) (fun j => head108_0 u t r i d j u) (fun j => j = 0) (fun _ => 0) 0 rfl rfl ?_
      rintro j rfl
      refine vc108_l0 _ _ _ _ _ _ _ _ _ _ ?_
      rintro y1 hy1 y2 hy2 y3 hy3
      replace hy1 := hy1.symm
      subst hy1
      have e2 : y2 = refZ := by rw [hy2, ← hz, hzz]
      rw [e2]
      (simp only [vcT, bif_tl, bif_fr, bif_tlf, bif_frf, Bool.not_eq_true', Bool.not_eq_false', decide_eq_true_eq, decide_eq_false_iff_not, beq_iff_eq, beq_eq_false_iff_ne, bne_iff_ne, ne_eq, bne_eq_false_iff_eq, Bool.or_eq_true, Bool.and_eq_true, Bool.or_eq_false_iff, Bool.and_eq_false_imp])
      refine ⟨fun hi => by have : kidsR refZ = 0 := rfl; omega, fun _ => ?_⟩
      refine hr (w := t - u) (e := 0) ?_ ?_
      · unfold kidV
        rw [if_pos he, if_pos (show (unX r).kind = 9 from k9), hz0]
        rfl
      · rw [show t - (t - u) = u by omega]
        (repeat' (first | exact trivial | exact rfl | refine And.intro ?_ ?_))
    · have hzx : (kidX (segO r.a) (unX r) i).1.kind = 1 := by
        unfold kidX
        rw [if_neg hki, if_neg (show ¬(unX r).kind = 1 by show ¬r.kind = 1; omega), if_neg (show ¬(unX r).kind = 8 by show ¬r.kind = 8; omega), if_pos (show (unX r).kind = 9 from k9)]
      have hza : z.a = r.a := by rw [hz]; exact a_lift (x := (kidX (segO r.a) (unX r) i).1) (by rw [hzx]; decide)
      have hzu : unX z = (kidX (segO r.a) (unX r) i).1 := by rw [hz]; exact unX_lift hkx
      have hzk : z.kind = 1 := (congrArg XRef.kind hzu).trans hzx
      have hkz : kidsR z = (kidX (segO r.a) (unX r) i).1.ptrs := by rw [kidsR_un, hzu]; unfold kidsX; rw [if_pos hzx]
      have hpz := hkx.ptrs
      have hV : kidV (segO r.a) d.toNat (unX r) i (t - u) = (loopM (kidM (segO r.a) (mean (segO r.a) d.toNat) (fun _ left => (Tree.nil, left, 3)) (unX z)) (kidsR z).toNat 0 (t - u) []).2 := by
        unfold kidV
        rw [if_pos he, if_pos (show (unX r).kind = 9 from k9), kidsM_2 hzx, hzu, hkz]
      refine loop_rule (ι := Int × Int) (fun p => head108_0 u t r i d p.1 p.2) (fun p => 0 ≤ p.1 ∧ p.1 ≤ kidsR z ∧ 0 ≤ p.2 ∧ p.2 ≤ t ∧ (loopM (kidM (segO r.a) (mean (segO r.a) d.toNat) (fun _ left => (Tree.nil, left, 3)) (unX z)) (kidsR z - p.1).toNat p.1 (t - p.2) []).2 = kidV (segO r.a) d.toNat (unX r) i (t - u)) (fun p => (kidsR z - p.1).toNat) (0, u) rfl ⟨by simp, by dsimp only; omega, by dsimp only; omega, by dsimp only; omega, ?_⟩ ?_
      · dsimp only
        rw [hV, Int.sub_zero]
      rintro ⟨j, w⟩ ⟨i0, i1, w0, w1, hL⟩
      dsimp only at i0 i1 w0 w1 hL
      refine vc108_l0 _ _ _ _ _ _ _ _ _ _ ?_
      rintro y1 hy1 y2 hy2 y3 hy3
      replace hy1 := hy1.symm
      subst hy1
      rw [← hz] at hy2
      subst hy2
      (simp only [vcT, bif_tl, bif_fr, bif_tlf, bif_frf, Bool.not_eq_true', Bool.not_eq_false', decide_eq_true_eq, decide_eq_false_iff_not, beq_iff_eq, beq_eq_false_iff_ne, bne_iff_ne, ne_eq, bne_eq_false_iff_eq, Bool.or_eq_true, Bool.and_eq_true, Bool.or_eq_false_iff, Bool.and_eq_false_imp])
      rw [hza] at hy3
      have hf := kidV_18 (l := segO r.a) (d := d.toNat) (m' := fun _ left => (Tree.nil, left, 3)) (x := unX y2) (i := j) (left := t - w) (.inl hzk)
      refine ⟨fun hi => ⟨⟨hokz, w0, w1, h2, hd0, hd, .inl hzk⟩, ?_, fun hn => ?_, fun hn => ⟨by ((unfold InR; omega)), (j + 1, t - y3.1), rfl, ?_, by dsimp only; omega⟩⟩, fun hi => ?_⟩
      · show 3 * d.toNat + (if y2.kind = 9 then 2 else 1) < N
        rw [if_neg (by omega)]
        omega
      · rw [loopM_step _ hi, hf, ← hy3, if_neg hn] at hL
        exact hr (w := y3.1) (e := y3.2) hL.symm (by (repeat' (first | exact trivial | exact rfl | refine And.intro ?_ ?_)))
      · have hfi := kidV_fine ha (x := unX y2) (by rw [hzu]; exact hkx) (d := d.toNat) (i := j) (left := t - w) (by omega)
        rw [← hy3] at hfi
        rw [loopM_step _ hi, hf, ← hy3, if_pos hn] at hL
        refine ⟨by dsimp only; omega, by dsimp only; omega, by dsimp only; omega, by dsimp only; omega, ?_⟩
        dsimp only
        rw [show t - (t - y3.1) = y3.1 by omega, ← hL]
      · rw [show (kidsR y2 - j).toNat = 0 by omega] at hL
        refine hr (w := t - w) (e := 0) hL.symm ?_
        rw [show t - (t - w) = w by omega]
        (repeat' (first | exact trivial | exact rfl | refine And.intro ?_ ?_))

theorem c77_ : Contract Try.prog cfg 77 spec77 ∧ Contract Try.prog cfg 108 spec108 := make77_ c106 c105 c107 c22 c23 c24 b77 b108
theorem c77 : Contract Try.prog cfg 77 spec77 := c77_.1

theorem limV_ok (x : Limits) : 0 ≤ (limV x).depth ∧ (limV x).depth ≤ 64 ∧ 0 ≤ (limV x).weight ∧ (limV x).weight ≤ 65536 := by
  show 0 ≤ clampI x.depth 64 ∧ clampI x.depth 64 ≤ 64 ∧ 0 ≤ clampI x.weight 65536 ∧ clampI x.weight 65536 ≤ 65536
  unfold clampI
  refine ⟨?_, ?_, ?_, ?_⟩ <;> (repeat' split) <;> omega

theorem c40 : Contract Try.prog cfg 40 spec40 := by
  refine make40 c45 c21 c77 ?_
  intro a x _ ha
  simp only [pre40] at ha
  refine vc40 _ _ _ ?_
  rintro y hy z hz m hm
  dsimp only at hy hz hm
  replace hy := hy.symm
  subst hy
  have hx := okX_at ha 0 0
  have hl := limV_ok x
  have hm' : m = mean (segO a) (limV x).depth.toNat (refAt (segO a) 0 0).1 (limV x).weight := by rw [hm, hz, Int.sub_zero]; exact mean_lift hx _ _
  clear hm
  (simp only [vcT, bif_tl, bif_fr, bif_tlf, bif_frf, Bool.not_eq_true', Bool.not_eq_false', decide_eq_true_eq, decide_eq_false_iff_not, beq_iff_eq, beq_eq_false_iff_ne, bne_iff_ne, ne_eq, bne_eq_false_iff_eq, Bool.or_eq_true, Bool.and_eq_true, Bool.or_eq_false_iff, Bool.and_eq_false_imp])
  refine ⟨trivial, ha, fun h => ?_, fun h => ⟨⟨by rw [hz]; exact okR_lift ha hx, ?_⟩, fun h2 => ?_, fun h2 => ?_⟩⟩
  · refine ends_eq (r' := .tup [(false, [.int .i64 0]), (false, [.int .i64 (refAt (segO a) 0 0).2])]) ?_ (by (repeat' (first | exact trivial | exact rfl | refine And.intro ?_ ?_)))
    simp only [res40]
    rw [show unfV (segO a) x = (Tree.nil, 0, (refAt (segO a) 0 0).2) by unfold unfV; rw [if_neg h]]
  · dsimp only
    omega
  · refine ends_eq (r' := .tup [(false, [.int .i64 0]), (false, [.int .i64 m.2.2])]) ?_ (by (repeat' (first | exact trivial | exact rfl | refine And.intro ?_ ?_)))
    simp only [res40]
    rw [show unfV (segO a) x = (Tree.nil, 0, m.2.2) by unfold unfV; rw [if_pos h, ← hm', if_neg h2]]
  · refine ends_eq (r' := .tup [(false, [.int .i64 ((limV x).weight - m.2.1)]), (false, [.int .i64 0])]) ?_ (by (repeat' (first | exact trivial | exact rfl | refine And.intro ?_ ?_)))
    simp only [res40]
    rw [show unfV (segO a) x = (m.1, (limV x).weight - m.2.1, 0) by unfold unfV; rw [if_pos h, ← hm', if_pos h2]]

end Go.AM.Ythokdjgpdonhgaa

namespace Go.AM.Ythokdjgpdonhgaa
open Go.AM Go.Proofs

def args42 : ArgL (Unit) := .nil
def pre42 (a : Unit) : Prop := True
noncomputable def res42 (a : Unit) : V U := .c (.bool true)
noncomputable def spec42 : Fs U := fs args42 (fun a => [pre42 a]) res42

noncomputable def know42 : List (FuncId × Fs U) := [(20, spec20), (40, spec40)]
def lv42 : Lives U := fun i => match i with
  | 0 => ([], [])
  | 1 => ([(1, [])], [])
  | 2 => ([(1, []), (2, []), (3, [])], [])
  | 3 => ([(2, []), (3, []), (5, [])], [])
  | 4 => ([(0, [])], [])
  | _ => ([], [])
noncomputable abbrev A42 (p : List Nat) := awp cfg (know know42) (drawOk cfg (know know42)) Try.f42.ntmps lv42 (cd Try.f42 p)
theorem vc42 (Q : AExit → LSt U → Prop) (h : ((pre20 (([[4294967296, 7]]), ())) ∧ ((pre40 ((some (Arena.mk ([[4294967296, 7]]) 0 0 0)), (Limits.mk 1 2 0 0), ())) ∧ ((pre40 ((some (Arena.mk ([[4294967296, 7]]) 0 0 0)), (Limits.mk 1 1 0 0), ())) ∧ ((Tr (((((unfV (segO (some (Arena.mk ([[4294967296, 7]]) 0 0 0))) (Limits.mk 1 2 0 0)).2.1) : Int) == 2) = true)) ∧ ((Tr (((((unfV (segO (some (Arena.mk ([[4294967296, 7]]) 0 0 0))) (Limits.mk 1 2 0 0)).2.1) : Int) == 2) = true))) ∧ (Tr ((bif ((((unfV (segO (some (Arena.mk ([[4294967296, 7]]) 0 0 0))) (Limits.mk 1 2 0 0)).2.1) : Int) == 2) then ((((unfV (segO (some (Arena.mk ([[4294967296, 7]]) 0 0 0))) (Limits.mk 1 2 0 0)).2.2) : Int) == 0) else false) = true)) ∧ ((Tr ((bif ((((unfV (segO (some (Arena.mk ([[4294967296, 7]]) 0 0 0))) (Limits.mk 1 2 0 0)).2.1) : Int) == 2) then ((((unfV (segO (some (Arena.mk ([[4294967296, 7]]) 0 0 0))) (Limits.mk 1 2 0 0)).2.2) : Int) == 0) else false) = true))) ∧ (Q .ret (⟨[(0, .c (.bool (bif (bif ((((unfV (segO (some (Arena.mk ([[4294967296, 7]]) 0 0 0))) (Limits.mk 1 2 0 0)).2.1) : Int) == 2) then ((((unfV (segO (some (Arena.mk ([[4294967296, 7]]) 0 0 0))) (Limits.mk 1 2 0 0)).2.2) : Int) == 0) else false) then ((((unfV (segO (some (Arena.mk ([[4294967296, 7]]) 0 0 0))) (Limits.mk 1 1 0 0)).2.2) : Int) == 3) else false)))], [], []⟩ : LSt U))))))) :
    A42 [] (⟨[], [], []⟩ : LSt U) Q :=
  Eq.mpr (by kernel_rfl) h
def Body42  : Prop := awp cfg (know (know42)) (drawOk cfg (know (know42))) Try.f42.ntmps lv42 (cd Try.f42 []) (entry (args42.can (())) []) (EndsQ cfg Try.f42.ntmps Try.f42.results.toList (res42 (())) [])
theorem make42 (c20 : Contract Try.prog cfg 20 spec20) (c40 : Contract Try.prog cfg 40 spec40) (hb : ∀ (_ : Unit), pre42 (()) → Body42 ) : Contract Try.prog cfg 42 spec42 :=
  contract_flat (l := [(20, spec20), (40, spec40)]) cfgOk rfl (⟨c20, c40, trivial⟩) lv42 Try.func42 rfl rfl 0 (fun _ => rfl) (by decide) (fun _ => hb  ())

end Go.AM.Ythokdjgpdonhgaa

namespace Go.AM.Ythokdjgpdonhgaa
open Go.AM Go.Proofs

theorem c42 : Contract Try.prog cfg 42 spec42 := by
  refine make42 c20 c40 ?_
  intro _ _
  refine vc42 _ ?_
  have e1 : unfV (segO (some (Arena.mk [[4294967296, 7]] 0 0 0))) (Limits.mk 1 2 0 0) = (⟨1, [7], []⟩, 2, 0) := by rfl
  have e2 : unfV (segO (some (Arena.mk [[4294967296, 7]] 0 0 0))) (Limits.mk 1 1 0 0) = (Tree.nil, 0, 3) := by rfl
  rw [e1, e2]
  (simp only [vcT, bif_tl, bif_fr, bif_tlf, bif_frf, Bool.not_eq_true', Bool.not_eq_false', decide_eq_true_eq, decide_eq_false_iff_not, beq_iff_eq, beq_eq_false_iff_ne, bne_iff_ne, ne_eq, bne_eq_false_iff_eq, Bool.or_eq_true, Bool.and_eq_true, Bool.or_eq_false_iff, Bool.and_eq_false_imp])
  refine ⟨aw_ok, aw_ok, aw_ok, ?_⟩
  exact ends_bool rfl rfl

end Go.AM.Ythokdjgpdonhgaa

namespace Go.AM.Ythokdjgpdonhgaa
open Go.AM Go.Proofs

def args12 : ArgL (Limits × Int × Unit) := (.cons (aEl .limits) (.cons (aInt .u32) .nil))
def pre12 (a : Limits × Int × Unit) : Prop := 0 ≤ a.2.1 ∧ a.2.1 < 4294967296
noncomputable def res12 (a : Limits × Int × Unit) : V U := .c (.bool true)
noncomputable def spec12 : Fs U := fs args12 (fun a => [pre12 a]) res12

noncomputable def know12 : List (FuncId × Fs U) := [(20, spec20), (40, spec40), (45, spec45), (42, spec42)]
def lv12 : Lives U := fun i => match i with
  | 0 => ([(1, []), (2, [])], [((.loc 2), [])])
  | 1 => ([(1, []), (2, []), (6, [])], [((.loc 2), [])])
  | 2 => ([(1, []), (2, []), (6, []), (8, [])], [((.loc 2), [])])
  | 3 => ([(2, []), (6, []), (8, []), (9, [])], [((.loc 2), [])])
  | 4 => ([(2, []), (6, []), (8, []), (9, []), (11, [])], [((.loc 2), [])])
  | 5 => ([(6, []), (8, []), (11, []), (12, [])], [])
  | 6 => ([(4, [])], [])
  | _ => ([], [])
noncomputable abbrev A12 (p : List Nat) := awp cfg (know know12) (drawOk cfg (know know12)) Try.f12.ntmps lv12 (cd Try.f12 p)
theorem vc12 (x : Limits) (n : Int) (Q : AExit → LSt U → Prop) (h : ∀ y_1, y_1 = (x) → ∀ y_2, y_2 = (segO (some (Arena.mk ([[281474976710656, 281479271677944]]) 0 0 0))) → ∀ y_3, y_3 = (IntKind.wrap .u64 (((IntKind.wrap .i64 (Int.tmod n 536870911)) : Int) + 1)) → ∀ y_4, y_4 = (unfV (segO (some (Arena.mk ([[281479271677948, 0]]) 0 0 0))) y_1) → ∀ y_5, y_5 = (IntKind.wrap .u64 ((y_3 : Int) * 2 ^ (min (Int.toNat 35) (IntKind.bits .u64)))) → ∀ y_6, y_6 = (segO (some (Arena.mk ([[IntKind.wrap .u64 ((1 : Int) + y_5)]]) 0 0 0))) → ((pre20 (([[281479271677948, 0]]), ())) ∧ (pre40 ((some (Arena.mk ([[281479271677948, 0]]) 0 0 0)), y_1, ())) ∧ ((pre20 (([[281474976710656, 281479271677944]]), ())) ∧ (pre40 ((some (Arena.mk ([[281474976710656, 281479271677944]]) 0 0 0)), y_1, ())) ∧ (((536870911 : Int) ≠ 0) ∧ (InR (((IntKind.wrap .i64 (Int.tmod n 536870911)) : Int) + 1)) ∧ (((0 : Int) ≤ 35) ∧ (pre20 (([[IntKind.wrap .u64 ((1 : Int) + y_5)]]), ())) ∧ (pre40 ((some (Arena.mk ([[IntKind.wrap .u64 ((1 : Int) + y_5)]]) 0 0 0)), y_1, ())) ∧ ((pre45 (y_1, ())) ∧ (Tr ((!(decide (((Limits.depth (limV y_1)) : Int) < 1))) = true)) ∧ ((!(decide (((Limits.depth (limV y_1)) : Int) < 1))) = true → InR (((((IntKind.wrap .i64 (Int.tmod n 536870911)) : Int) + 1) : Int) + 1)) ∧ (Tr ((!(decide (((Limits.depth (limV y_1)) : Int) < 1))) = true)) ∧ ((!(decide (((Limits.depth (limV y_1)) : Int) < 1))) = true → pre45 (y_1, ())) ∧ (Tr ((!(decide (((Limits.depth (limV y_1)) : Int) < 1))) = true)) ∧ (Tr ((!(decide (((Limits.depth (limV y_1)) : Int) < 1))) = true)) ∧ (Tr ((!(decide (((Limits.depth (limV y_1)) : Int) < 1))) = true)) ∧ (((decide (((Limits.depth (limV y_1)) : Int) < 1)) = false → (!(decide (((Limits.depth (limV y_1)) : Int) < 1))) = true)) ∧ ((Tr ((((y_4.2.2) : Int) == 3) = true)) ∧ ((Tr ((((y_4.2.2) : Int) == 3) = true))) ∧ (Tr ((bif (((y_4.2.2) : Int) == 3) then ((((unfV y_2 y_1).2.2) : Int) == 3) else false) = true)) ∧ (Tr ((bif (((y_4.2.2) : Int) == 3) then ((((unfV y_2 y_1).2.2) : Int) == 3) else false) = true)) ∧ (Tr ((bif (((y_4.2.2) : Int) == 3) then ((((unfV y_2 y_1).2.2) : Int) == 3) else false) = true)) ∧ ((Tr ((bif (((y_4.2.2) : Int) == 3) then ((((unfV y_2 y_1).2.2) : Int) == 3) else false) = true))) ∧ (Tr ((bif (bif (((y_4.2.2) : Int) == 3) then ((((unfV y_2 y_1).2.2) : Int) == 3) else false) then (((((unfV y_6 y_1).2.2) : Int) == 3) == (bif (decide (((Limits.depth (limV y_1)) : Int) < 1)) then true else (decide (((Limits.weight (limV y_1)) : Int) < (((((IntKind.wrap .i64 (Int.tmod n 536870911)) : Int) + 1) : Int) + 1))))) else false) = true)) ∧ (Tr (((bif (bif (((y_4.2.2) : Int) == 3) then ((((unfV y_2 y_1).2.2) : Int) == 3) else false) then (((((unfV y_6 y_1).2.2) : Int) == 3) == (bif (decide (((Limits.depth (limV y_1)) : Int) < 1)) then true else (decide (((Limits.weight (limV y_1)) : Int) < (((((IntKind.wrap .i64 (Int.tmod n 536870911)) : Int) + 1) : Int) + 1))))) else false) && (!(bif (decide (((Limits.depth (limV y_1)) : Int) < 1)) then true else (decide (((Limits.weight (limV y_1)) : Int) < (((((IntKind.wrap .i64 (Int.tmod n 536870911)) : Int) + 1) : Int) + 1)))))) = true)) ∧ ((bif (bif (((y_4.2.2) : Int) == 3) then ((((unfV y_2 y_1).2.2) : Int) == 3) else false) then (((((unfV y_6 y_1).2.2) : Int) == 3) == (bif (decide (((Limits.depth (limV y_1)) : Int) < 1)) then true else (decide (((Limits.weight (limV y_1)) : Int) < (((((IntKind.wrap .i64 (Int.tmod n 536870911)) : Int) + 1) : Int) + 1))))) else false) = true → (True → (bif (bif (((y_4.2.2) : Int) == 3) then ((((unfV y_2 y_1).2.2) : Int) == 3) else false) then (((((unfV y_6 y_1).2.2) : Int) == 3) == (bif (decide (((Limits.depth (limV y_1)) : Int) < 1)) then true else (decide (((Limits.weight (limV y_1)) : Int) < (((((IntKind.wrap .i64 (Int.tmod n 536870911)) : Int) + 1) : Int) + 1))))) else false) = true)) ∧ ((bif (bif (((y_4.2.2) : Int) == 3) then ((((unfV y_2 y_1).2.2) : Int) == 3) else false) then (((((unfV y_6 y_1).2.2) : Int) == 3) == (bif (decide (((Limits.depth (limV y_1)) : Int) < 1)) then true else (decide (((Limits.weight (limV y_1)) : Int) < (((((IntKind.wrap .i64 (Int.tmod n 536870911)) : Int) + 1) : Int) + 1))))) else false) = true → ((bif (decide (((Limits.depth (limV y_1)) : Int) < 1)) then true else (decide (((Limits.weight (limV y_1)) : Int) < (((((IntKind.wrap .i64 (Int.tmod n 536870911)) : Int) + 1) : Int) + 1)))) = false → ((bif (bif (((y_4.2.2) : Int) == 3) then ((((unfV y_2 y_1).2.2) : Int) == 3) else false) then (((((unfV y_6 y_1).2.2) : Int) == 3) == (bif (decide (((Limits.depth (limV y_1)) : Int) < 1)) then true else (decide (((Limits.weight (limV y_1)) : Int) < (((((IntKind.wrap .i64 (Int.tmod n 536870911)) : Int) + 1) : Int) + 1))))) else false) && (!(bif (decide (((Limits.depth (limV y_1)) : Int) < 1)) then true else (decide (((Limits.weight (limV y_1)) : Int) < (((((IntKind.wrap .i64 (Int.tmod n 536870911)) : Int) + 1) : Int) + 1)))))) = true)) ∧ ((Tr ((bif (bif (((y_4.2.2) : Int) == 3) then ((((unfV y_2 y_1).2.2) : Int) == 3) else false) then (((((unfV y_6 y_1).2.2) : Int) == 3) == (bif (decide (((Limits.depth (limV y_1)) : Int) < 1)) then true else (decide (((Limits.weight (limV y_1)) : Int) < (((((IntKind.wrap .i64 (Int.tmod n 536870911)) : Int) + 1) : Int) + 1))))) else false) = true))) ∧ ((bif (bif (bif (((y_4.2.2) : Int) == 3) then ((((unfV y_2 y_1).2.2) : Int) == 3) else false) then (((((unfV y_6 y_1).2.2) : Int) == 3) == (bif (decide (((Limits.depth (limV y_1)) : Int) < 1)) then true else (decide (((Limits.weight (limV y_1)) : Int) < (((((IntKind.wrap .i64 (Int.tmod n 536870911)) : Int) + 1) : Int) + 1))))) else false) then (bif (bif (decide (((Limits.depth (limV y_1)) : Int) < 1)) then true else (decide (((Limits.weight (limV y_1)) : Int) < (((((IntKind.wrap .i64 (Int.tmod n 536870911)) : Int) + 1) : Int) + 1)))) then true else ((((unfV y_6 y_1).2.2) : Int) == 0)) else false) = true → pre42 (())) ∧ ((Tr ((bif (bif (bif (((y_4.2.2) : Int) == 3) then ((((unfV y_2 y_1).2.2) : Int) == 3) else false) then (((((unfV y_6 y_1).2.2) : Int) == 3) == (bif (decide (((Limits.depth (limV y_1)) : Int) < 1)) then true else (decide (((Limits.weight (limV y_1)) : Int) < (((((IntKind.wrap .i64 (Int.tmod n 536870911)) : Int) + 1) : Int) + 1))))) else false) then (bif (bif (decide (((Limits.depth (limV y_1)) : Int) < 1)) then true else (decide (((Limits.weight (limV y_1)) : Int) < (((((IntKind.wrap .i64 (Int.tmod n 536870911)) : Int) + 1) : Int) + 1)))) then true else ((((unfV y_6 y_1).2.2) : Int) == 0)) else false) = true))) ∧ (Q .ret (⟨[(4, .c (.bool (bif (bif (bif (bif (((y_4.2.2) : Int) == 3) then ((((unfV y_2 y_1).2.2) : Int) == 3) else false) then (((((unfV y_6 y_1).2.2) : Int) == 3) == (bif (decide (((Limits.depth (limV y_1)) : Int) < 1)) then true else (decide (((Limits.weight (limV y_1)) : Int) < (((((IntKind.wrap .i64 (Int.tmod n 536870911)) : Int) + 1) : Int) + 1))))) else false) then (bif (bif (decide (((Limits.depth (limV y_1)) : Int) < 1)) then true else (decide (((Limits.weight (limV y_1)) : Int) < (((((IntKind.wrap .i64 (Int.tmod n 536870911)) : Int) + 1) : Int) + 1)))) then true else ((((unfV y_6 y_1).2.2) : Int) == 0)) else false) then true else false)))], [], []⟩ : LSt U))))))))) :
    A12 [] (⟨[(0, .agg [.int .i64 (Limits.depth x), .int .i64 (Limits.weight x), .int .i64 (Limits.maxD x), .int .i64 (Limits.maxOut x)]), (1, .c (.int .u32 n))], [], []⟩ : LSt U) Q :=
  Eq.mpr (by kernel_rfl) (h _ (reLimits_eq _) _ rfl _ rfl _ rfl _ rfl _ rfl)
def Body12 (x : Limits) (n : Int)  : Prop := awp cfg (know (know12)) (drawOk cfg (know (know12))) Try.f12.ntmps lv12 (cd Try.f12 []) (entry (args12.can (x, n, ())) []) (EndsQ cfg Try.f12.ntmps Try.f12.results.toList (res12 (x, n, ())) [])
theorem make12 (c20 : Contract Try.prog cfg 20 spec20) (c40 : Contract Try.prog cfg 40 spec40) (c45 : Contract Try.prog cfg 45 spec45) (c42 : Contract Try.prog cfg 42 spec42) (hb : ∀ (x : Limits) (n : Int) (_ : Unit), pre12 (x, n, ()) → Body12 x n) : Contract Try.prog cfg 12 spec12 :=
  contract_flat (l := [(20, spec20), (40, spec40), (45, spec45), (42, spec42)]) cfgOk rfl (⟨c20, c40, c45, c42, trivial⟩) lv12 Try.func12 rfl rfl 2 (fun _ => rfl) (by decide) (fun ⟨x, n, _⟩ => hb x n ())

end Go.AM.Ythokdjgpdonhgaa

namespace Go.AM.Ythokdjgpdonhgaa
open Go.AM Go.Proofs

theorem round_step {l : List (List Int)} {d : Nat} {x y : XRef} (h1 : x.kind = 1) (hp : x.ptrs = 1) (hk : kidX l x 0 = (y, 0)) (h : ∀ left, (mean l d y left).2.2 = 3) (left : Int) : (mean l (d + 1) x left).2.2 = 3 := by
  rw [mean_eq (by omega)]
  unfold stepM
  rw [if_neg (by omega)]
  by_cases h2 : d + 1 = 0 ∨ (x.kind = 9 ∧ 0 < x.count ∧ d + 1 < 2) ∨ left < ownX x
  · rw [if_pos h2]
  · rw [if_neg h2]
    have hn : (kidsX x).toNat = 1 := by unfold kidsX; rw [if_pos h1, hp]; rfl
    have hf : ∀ w m', kidM l (mean l d) m' x 0 w = mean l d y w := by
      intro w m'
      unfold kidM
      rw [hk, if_pos rfl, if_neg (by omega), if_pos (.inl h1)]
    rw [hn]
    show (loopM (kidM l (mean l d) (mean l (d + 1 - 2)) x) 1 0 (left - ownX x) []).2.2 = 3
    simp only [loopM]
    rw [hf, if_neg (by rw [h]; decide)]
    exact h _

theorem round_zero {l : List (List Int)} {x : XRef} (h1 : x.kind = 1) (left : Int) : (mean l 0 x left).2.2 = 3 := by
  rw [mean_zero, if_neg (by omega)]

theorem round1 (d : Nat) : ∀ left, (mean [[281479271677948, 0]] d ⟨1, 0, 0, 0, 1, 0, 0⟩ left).2.2 = 3 := by
  induction d with
  | zero => exact fun left => round_zero rfl left
  | succ d ih => exact fun left => round_step rfl rfl rfl ih left

theorem round2 (d : Nat) : (∀ left, (mean [[281474976710656, 281479271677944]] d ⟨1, 0, 1, 0, 1, 0, 0⟩ left).2.2 = 3) ∧ ∀ left, (mean [[281474976710656, 281479271677944]] d ⟨1, 0, 0, 0, 1, 0, 0⟩ left).2.2 = 3 := by
  induction d with
  | zero => exact ⟨fun left => round_zero rfl left, fun left => round_zero rfl left⟩
  | succ d ih => exact ⟨fun left => round_step rfl rfl rfl ih.2 left, fun left => round_step rfl rfl rfl ih.1 left⟩

theorem unf_round1 (x : Limits) : (unfV [[281479271677948, 0]] x).2.2 = 3 := by
  have h := round1 (limV x).depth.toNat (limV x).weight
  unfold unfV
  rw [show refAt [[281479271677948, 0]] 0 0 = (⟨1, 0, 0, 0, 1, 0, 0⟩, 0) from rfl]
  simp only
  rw [if_pos trivial, if_neg (by rw [h]; decide)]
  exact h

theorem unf_round2 (x : Limits) : (unfV [[281474976710656, 281479271677944]] x).2.2 = 3 := by
  have h := (round2 (limV x).depth.toNat).1 (limV x).weight
  unfold unfV
  rw [show refAt [[281474976710656, 281479271677944]] 0 0 = (⟨1, 0, 1, 0, 1, 0, 0⟩, 0) from rfl]
  simp only
  rw [if_pos trivial, if_neg (by rw [h]; decide)]
  exact h

theorem ref_many {m : Int} (h0 : 1 ≤ m) (h1 : m ≤ 536870911) : refAt [[1 + m * 34359738368]] 0 0 = (⟨2, 0, 1, 0, 0, m, 0⟩, 0) := by
  have hd : decP (1 + m * 34359738368) = ⟨2, 0, 0, 0, 0, m, 0, false⟩ := by
    unfold decP
    rw [if_neg (by omega), if_neg (by omega), if_pos (by omega)]
    have e1 : offP (1 + m * 34359738368) = 0 := by unfold offP; rw [if_neg (by omega)]; omega
    rw [e1, show (1 + m * 34359738368) / 4294967296 % 8 = 0 by omega, show (1 + m * 34359738368) / 34359738368 = m by omega]
  have hg : getS [[1 + m * 34359738368]] 0 0 = 1 + m * 34359738368 := rfl
  have hw : wordsP ⟨2, 0, 0, 0, 0, m, 0, false⟩ = 0 := by
    unfold wordsP bitsP
    simp
    omega
  have hf : follow [[1 + m * 34359738368]] 0 0 = (⟨⟨2, 0, 0, 0, 0, m, 0, false⟩, 0, 1⟩, 0) := by
    unfold follow
    rw [hg, hd, if_pos (show hasN [[1 + m * 34359738368]] 0 0 1 = true from rfl)]
    simp only
    rw [if_neg (by decide), if_pos (by decide)]
    unfold nearL
    rw [if_pos (show shapeE ⟨2, 0, 0, 0, 0, m, 0, false⟩ = 0 from rfl)]
    unfold insideL
    rw [show wordsP (⟨⟨2, 0, 0, 0, 0, m, 0, false⟩, 0, 0 + 1 + (⟨2, 0, 0, 0, 0, m, 0, false⟩ : Ptr).off⟩ : Loc).p = 0 from hw]
    rfl
  unfold refAt
  rw [hf]
  rfl

theorem unf_many {m : Int} (h0 : 1 ≤ m) (h1 : m ≤ 536870911) (x : Limits) : (unfV [[1 + m * 34359738368]] x).2.2 = if (limV x).depth < 1 ∨ (limV x).weight < m + 1 then 3 else 0 := by
  have hlv := limV_ok x
  have key : (mean [[1 + m * 34359738368]] (limV x).depth.toNat ⟨2, 0, 1, 0, 0, m, 0⟩ (limV x).weight).2.2 = if (limV x).depth < 1 ∨ (limV x).weight < m + 1 then 3 else 0 := by
    have ho : ownX ⟨2, 0, 1, 0, 0, m, 0⟩ = 1 + m := rfl
    by_cases hD : 1 ≤ (limV x).depth.toNat
    · rw [mean_eq hD]
      unfold stepM
      rw [if_neg (show ¬(2 : Int) = 0 by decide), ho]
      by_cases hw : (limV x).weight < m + 1
      · rw [if_pos (.inr (.inr (by omega))), if_pos (.inr hw)]
      · rw [if_neg (show ¬((limV x).depth.toNat = 0 ∨ ((2 : Int) = 9 ∧ 0 < m ∧ (limV x).depth.toNat < 2) ∨ (limV x).weight < 1 + m) by omega), if_neg (by omega)]
        have := loopM_data (f := kidM [[1 + m * 34359738368]] (mean [[1 + m * 34359738368]] ((limV x).depth.toNat - 1)) (mean [[1 + m * 34359738368]] ((limV x).depth.toNat - 2)) ⟨2, 0, 1, 0, 0, m, 0⟩) (fun i left => kidM_data (.inl (show (2 : Int) ≤ 2 ∧ (2 : Int) ≤ 7 by decide))) (kidsX ⟨2, 0, 1, 0, 0, m, 0⟩).toNat 0 ((limV x).weight - (1 + m)) []
        rw [this]
    · rw [show (limV x).depth.toNat = 0 by omega, mean_zero, if_neg (show ¬(2 : Int) = 0 by decide), if_pos (.inl (by omega))]
  unfold unfV
  rw [ref_many h0 h1]
  simp only
  rw [if_pos trivial]
  by_cases h : (mean [[1 + m * 34359738368]] (limV x).depth.toNat ⟨2, 0, 1, 0, 0, m, 0⟩ (limV x).weight).2.2 = 0
  · rw [if_pos h, ← key, h]
  · rw [if_neg h]; exact key

theorem c12 : Contract Try.prog cfg 12 spec12 := by
  refine make12 c20 c40 c45 c42 ?_
  intro x n _ hp
  obtain ⟨hn0, hn1⟩ := hp
  dsimp only at hn0 hn1
  refine vc12 _ _ _ ?_
  rintro y1 h1 y2 h2 y3 h3 y4 h4 y5 h5 y6 h6
  dsimp only at h1 h2 h3 h4 h5 h6
  have hm : Int.tmod n 536870911 = n % 536870911 := Int.tmod_eq_emod_of_nonneg hn0
  have hw : IntKind.wrap .i64 (Int.tmod n 536870911) = n % 536870911 := by rw [hm]; exact wrap_i64 (by omega) (by omega)
  rw [hw] at h3 ⊢
  rw [wrap_u64 (by omega) (by omega)] at h3
  have h5' : y5 = y3 * 34359738368 := by rw [h5]; exact wrap_u64 (by show 0 ≤ y3 * 34359738368; omega) (by show y3 * 34359738368 < _; omega)
  have h6' : IntKind.wrap .u64 (1 + y5) = 1 + y3 * 34359738368 := by rw [h5', wrap_u64 (by omega) (by omega)]
  rw [h6'] at h6 ⊢
  have e4 : y4.2.2 = 3 := by rw [h4]; exact unf_round1 y1
  have e2 : (unfV y2 y1).2.2 = 3 := by rw [h2]; exact unf_round2 y1
  have e6 : (unfV y6 y1).2.2 = if (limV y1).depth < 1 ∨ (limV y1).weight < y3 + 1 then 3 else 0 := by rw [h6]; exact unf_many (by omega) (by omega) y1
  rw [← h3, e4, e2, e6]
  (simp only [vcT, bif_tl, bif_fr, bif_tlf, bif_frf, Bool.not_eq_true', Bool.not_eq_false', decide_eq_true_eq, decide_eq_false_iff_not, beq_iff_eq, beq_eq_false_iff_ne, bne_iff_ne, ne_eq, bne_eq_false_iff_eq, Bool.or_eq_true, Bool.and_eq_true, Bool.or_eq_false_iff, Bool.and_eq_false_imp])
  have ok1 : ∀ w : List (List Int), w.length = 1 → (∀ e ∈ w, e.length ≤ 2 ∧ ∀ z ∈ e, 0 ≤ z ∧ z < 18446744073709551616) → okSeg w := fun w hw he => ⟨by omega, fun e h => ⟨by have := (he e h).1; omega, (he e h).2⟩⟩
  have a1 : okSeg [[281479271677948, 0]] := ok1 _ rfl (fun e he => by
    rw [List.mem_singleton.1 he]
    refine ⟨by simp, fun z hz => ?_⟩
    simp at hz
    rcases hz with rfl | rfl <;> decide)
  have a2 : okSeg [[281474976710656, 281479271677944]] := ok1 _ rfl (fun e he => by
    rw [List.mem_singleton.1 he]
    refine ⟨by simp, fun z hz => ?_⟩
    simp at hz
    rcases hz with rfl | rfl <;> decide)
  have a3 : okSeg [[1 + y3 * 34359738368]] := ok1 _ rfl (fun e he => by
    rw [List.mem_singleton.1 he]
    refine ⟨by simp, fun z hz => ?_⟩
    rw [List.mem_singleton.1 hz]
    omega)
  refine ⟨a1, a1, a2, a2, by decide, by ((unfold InR; omega)), by decide, a3, a3, trivial, fun _ => by ((unfold InR; omega)), fun _ => trivial, fun p q => ⟨p, q⟩, fun _ => trivial, ends_bool rfl ?_⟩
  by_cases q1 : (limV y1).depth < 1
  · rw [if_pos (.inl q1), decide_eq_true q1]; rfl
  · by_cases q2 : (limV y1).weight < y3 + 1
    · rw [if_pos (.inr q2), decide_eq_false q1, decide_eq_true q2]; rfl
    · rw [if_neg (by omega), decide_eq_false q1, decide_eq_false q2]; rfl
end Go.AM.Ythokdjgpdonhgaa
