import Derived.Test.YthokdjgpdonhgaaQGb
set_option linter.unusedSimpArgs false
set_option linter.unusedVariables false
namespace Go.AM.Ythokdjgpdonhgaa
open Go.AM Go.Proofs

theorem ends_eq2 {n : Nat} {rs : List ResultVar} {r r' : V U} {X X' : List (List (C U))} {e : AExit} {s : LSt U} (hr : r = r') (hX : X = X') (h : EndsQ cfg n rs r' X' e s) : EndsQ cfg n rs r X e s := by rw [hr, hX]; exact h

theorem clamp_min (n t : Int) (ht : 0 ≤ t) : (if t < (if n < 0 then 0 else n) then t else (if n < 0 then 0 else n)) = clampI n t := by
  unfold clampI
  (repeat' split) <;> omega

theorem c45 : Contract Try.prog cfg 45 spec45 := by
  refine make45 ?_
  intro x _ _
  refine vc45 _ _ ?_
  refine ends_eq (r' := .agg [.int .i64 (if (64 : Int) < (if x.depth < 0 then 0 else x.depth) then 64 else (if x.depth < 0 then 0 else x.depth)), .int .i64 (if (65536 : Int) < (if x.weight < 0 then 0 else x.weight) then 65536 else (if x.weight < 0 then 0 else x.weight)), .int .i64 (if (4096 : Int) < (if x.maxD < 0 then 0 else x.maxD) then 4096 else (if x.maxD < 0 then 0 else x.maxD)), .int .i64 (if (131072 : Int) < (if x.maxOut < 0 then 0 else x.maxOut) then 131072 else (if x.maxOut < 0 then 0 else x.maxOut))]) ?_ (by (repeat' (first | exact trivial | exact rfl | refine And.intro ?_ ?_)))
  rw [clamp_min _ _ (by decide), clamp_min _ _ (by decide), clamp_min _ _ (by decide), clamp_min _ _ (by decide)]
  rfl

theorem c39 : Contract Try.prog cfg 39 spec39 := by
  refine make39 ?_
  intro x _ _
  refine vc39 _ _ ?_
  (simp only [vcT, bif_tl, bif_fr, bif_tlf, bif_frf, Bool.not_eq_true', Bool.not_eq_false', decide_eq_true_eq, decide_eq_false_iff_not, beq_iff_eq, beq_eq_false_iff_ne, bne_iff_ne, ne_eq, bne_eq_false_iff_eq, Bool.or_eq_true, Bool.and_eq_true, Bool.or_eq_false_iff, Bool.and_eq_false_imp])
  have hr : res39 (x, ()) = .agg (enc .limits (lightV x)) := rfl
  rw [hr]
  refine ⟨fun h => ?_, fun h => ?_⟩
  · rw [show lightV x = ⟨x.depth, 3000, x.maxD, x.maxOut⟩ by unfold lightV; rw [if_pos h]]; (repeat' (first | exact trivial | exact rfl | refine And.intro ?_ ?_))
  · rw [show lightV x = x by unfold lightV; rw [if_neg h]]; (repeat' (first | exact trivial | exact rfl | refine And.intro ?_ ?_))

theorem c107 : Contract Try.prog cfg 107 spec107 := by
  refine make107 ?_
  intro k _ _
  refine vc107 _ _ ?_
  (simp only [vcT, bif_tl, bif_fr, bif_tlf, bif_frf, Bool.not_eq_true', Bool.not_eq_false', decide_eq_true_eq, decide_eq_false_iff_not, beq_iff_eq, beq_eq_false_iff_ne, bne_iff_ne, ne_eq, bne_eq_false_iff_eq, Bool.or_eq_true, Bool.and_eq_true, Bool.or_eq_false_iff, Bool.and_eq_false_imp])
  refine ends_bool rfl ?_
  rw [Bool.eq_iff_iff]
  (simp only [vcT, bif_tl, bif_fr, bif_tlf, bif_frf, Bool.not_eq_true', Bool.not_eq_false', decide_eq_true_eq, decide_eq_false_iff_not, beq_iff_eq, beq_eq_false_iff_ne, bne_iff_ne, ne_eq, bne_eq_false_iff_eq, Bool.or_eq_true, Bool.and_eq_true, Bool.or_eq_false_iff, Bool.and_eq_false_imp])

theorem c106 : Contract Try.prog cfg 106 spec106 := by
  refine make106 c22 c59 c23 c68 ?_
  intro r _ hp
  obtain ⟨ha, hx⟩ := hp
  dsimp only at ha hx
  have hd := hx.data
  have hq := hx.ptrs
  have hc := hx.count
  simp only [unX] at hd hq hc
  refine vc106 _ _ ?_
  rintro y hy
  dsimp only at hy
  replace hy := hy.symm
  subst hy
  (simp only [vcT, bif_tl, bif_fr, bif_tlf, bif_frf, Bool.not_eq_true', Bool.not_eq_false', decide_eq_true_eq, decide_eq_false_iff_not, beq_iff_eq, beq_eq_false_iff_ne, bne_iff_ne, ne_eq, bne_eq_false_iff_eq, Bool.or_eq_true, Bool.and_eq_true, Bool.or_eq_false_iff, Bool.and_eq_false_imp])
  refine ⟨trivial, fun h1 => ?_, fun h1 => ⟨trivial, fun h9 => ?_, fun h9 => ?_⟩⟩
  · have e1 : lenR r = r.data := by unfold lenR; rw [if_pos h1]
    have e2 : kidsR r = r.kids := by unfold kidsR; rw [if_pos h1]
    rw [e1, e2]
    refine ⟨trivial, by ((unfold InR; omega)), trivial, by ((unfold InR; omega)), ends_int rfl ?_⟩
    show _ = ownX (unX r)
    unfold ownX
    rw [if_pos (show (unX r).kind = 1 from h1)]
    rfl
  · have e2 : kidsR r = r.count := by unfold kidsR; rw [if_neg h1]
    rw [e2, if_pos h9, if_pos h9]
    have e3 := Int.mul_nonneg hc.1 (show 0 ≤ 1 + r.data + r.kids by omega)
    have e4 := Int.mul_le_mul (Int.le_of_lt hc.2) (show 1 + r.data + r.kids ≤ 131072 by omega) (by omega) (by decide : (0 : Int) ≤ 536870912)
    refine ⟨trivial, trivial, by ((unfold InR; omega)), by ((unfold InR; omega)), by ((unfold InR; omega)), by ((unfold InR; omega)), ends_int rfl ?_⟩
    show _ = ownX (unX r)
    unfold ownX
    rw [if_neg (show ¬(unX r).kind = 1 from h1), if_pos (show (unX r).kind = 9 from h9)]
    rfl
  · have e2 : kidsR r = r.count := by unfold kidsR; rw [if_neg h1]
    rw [e2]
    refine ⟨trivial, by ((unfold InR; omega)), ends_int rfl ?_⟩
    show _ = ownX (unX r)
    unfold ownX
    rw [if_neg (show ¬(unX r).kind = 1 from h1), if_neg (show ¬(unX r).kind = 9 from h9)]
    rfl

theorem c105 : Contract Try.prog cfg 105 spec105 := by
  refine make105 ?_
  intro u t n _ hp
  obtain ⟨h0, h1, h2, h3⟩ := hp
  dsimp only at h0 h1 h2 h3
  refine vc105 _ _ _ _ ?_
  (simp only [vcT, bif_tl, bif_fr, bif_tlf, bif_frf, Bool.not_eq_true', Bool.not_eq_false', decide_eq_true_eq, decide_eq_false_iff_not, beq_iff_eq, beq_eq_false_iff_ne, bne_iff_ne, ne_eq, bne_eq_false_iff_eq, Bool.or_eq_true, Bool.and_eq_true, Bool.or_eq_false_iff, Bool.and_eq_false_imp])
  refine ⟨by ((unfold InR; omega)), fun h => ?_, fun h => ⟨by ((unfold InR; omega)), ?_⟩⟩
  · refine ends_eq2 (r' := .c (.bool false)) (X' := [[.int .i64 u, .int .i64 t]]) ?_ ?_ (by (repeat' (first | exact trivial | exact rfl | refine And.intro ?_ ?_)))
    · simp only [res105]; rw [decide_eq_false (by omega)]
    · simp only [resX105]; rw [if_neg (by omega)]
  · refine ends_eq2 (r' := .c (.bool true)) (X' := [[.int .i64 (u + n), .int .i64 t]]) ?_ ?_ (by (repeat' (first | exact trivial | exact rfl | refine And.intro ?_ ?_)))
    · simp only [res105]; rw [decide_eq_true (by omega)]
    · simp only [resX105]; rw [if_pos (by omega)]

theorem loopM_acc (f : Int → Int → Tree × Int × Int) : ∀ (n : Nat) (i left : Int) (acc acc' : List Tree), (loopM f n i left acc).2 = (loopM f n i left acc').2
  | 0, _, _, _, _ => rfl
  | n + 1, i, left, acc, acc' => by
    simp only [loopM]
    split
    · exact loopM_acc f n _ _ _ _
    · rfl

theorem loopM_step (f : Int → Int → Tree × Int × Int) {n : Int} {i left : Int} (hi : i < n) : (loopM f (n - i).toNat i left []).2 = if (f i left).2.2 = 0 then (loopM f (n - (i + 1)).toNat (i + 1) (f i left).2.1 []).2 else (f i left).2 := by
  rw [show (n - i).toNat = (n - (i + 1)).toNat + 1 by omega]
  simp only [loopM]
  split
  · exact loopM_acc f _ _ _ _ _
  · rfl

theorem mean_null (l : List (List Int)) (d : Nat) (left : Int) : mean l d xz left = (⟨0, [], []⟩, left, 0) := by
  match d with
  | 0 => rfl
  | 1 => rfl
  | d + 2 => rfl

theorem mean_lift {a : Option Arena} {x : XRef} (h : OkX (segO a) x) (d : Nat) (left : Int) : mean (segO (liftX a x).a) d (unX (liftX a x)) left = mean (segO a) d x left := by
  rw [unX_lift h]
  by_cases h0 : x.kind = 0
  · rw [h.null h0, mean_null, mean_null]
  · rw [a_lift h0]

theorem kidV_18 {l : List (List Int)} {d : Nat} {m' : XRef → Int → Tree × Int × Int} {x : XRef} {i left : Int} (h : x.kind = 1 ∨ x.kind = 8) : (kidM l (mean l d) m' x i left).2 = kidV l d x i left := by
  unfold kidM kidV
  split
  · have h9 : ¬x.kind = 9 := by omega
    simp [h9, h]
  · rfl

theorem kidV_9 {l : List (List Int)} {d : Nat} {m : XRef → Int → Tree × Int × Int} {x : XRef} {i left : Int} (h : x.kind = 9) : (kidM l m (mean l d) x i left).2 = kidV l d x i left := by
  unfold kidM kidV
  split
  · simp [h]
  · rfl

theorem kidM_data {l : List (List Int)} {m m' : XRef → Int → Tree × Int × Int} {x : XRef} {i left : Int} (h : 2 ≤ x.kind ∧ x.kind ≤ 7 ∨ x.kind = 10) : (kidM l m m' x i left).2 = (left, 0) := by
  have hk : (kidX l x i).2 = 0 := by
    unfold kidX
    split
    · rfl
    · rw [if_neg (by omega), if_neg (by omega), if_neg (by omega)]
  unfold kidM
  rw [if_pos hk, if_neg (by omega), if_neg (by omega)]

theorem loopM_data {f : Int → Int → Tree × Int × Int} (hf : ∀ i left, (f i left).2 = (left, 0)) : ∀ (n : Nat) (i left : Int) (acc : List Tree), (loopM f n i left acc).2 = (left, 0)
  | 0, _, _, _ => rfl
  | n + 1, i, left, acc => by
    simp only [loopM, hf]
    rw [if_pos trivial]
    exact loopM_data hf n _ _ _

theorem kidV_fine {l : List (List Int)} (hl : okSeg l) {d : Nat} {x : XRef} (hx : OkX l x) {i left : Int} (h : 0 ≤ left) : 0 ≤ (kidV l d x i left).1 ∧ (kidV l d x i left).1 ≤ left := by
  unfold kidV
  split
  · split
    · exact kidsM_fine hl (mean_fine hl d) (okX_kid hl hx i) left h
    · exact mean_fine hl d _ _ (okX_kid hl hx i) h
  · exact ⟨h, Int.le_refl _⟩
theorem b77 : HB77 := by
  intro N u t r d _ hp hN
  obtain ⟨⟨ha, hx⟩, h0, h1, h2, hd0, hd⟩ := hp
  dsimp only at ha hx h0 h1 h2 hd0 hd
  have hN' : 3 * d.toNat < N + 1 := hN
  have hok : okR r := ⟨ha, hx⟩
  have hkl := kidsX_le hx
  have hop := ownX_pos hx
  refine vc77 _ _ _ _ _ _ ?_
  rintro y hy
  dsimp only at hy
  replace hy := hy.symm
  subst hy
  have hr : ∀ {e w : Int}, (mean (segO r.a) d.toNat (unX r) (t - u)).2 = (w, e) → ∀ {s : LSt U}, EndsQ cfg Try.f77.ntmps Try.f77.results.toList (.c (.int .i64 e)) [[.int .i64 (t - w), .int .i64 t]] .ret s →
      EndsQ cfg Try.f77.ntmps Try.f77.results.toList (res77 ((u, t, ()), r, d, ())) (resX77 ((u, t, ()), r, d, ())) .ret s := by
    intro e w he s hs
    refine ends_eq2 ?_ ?_ hs
    · simp only [res77]; rw [he]
    · simp only [resX77]; rw [he]
  have cut : ∀ x7 : Int, (x7 = d - 1 ∧ (r.kind ≠ 9 ∨ kidsR r ≤ 0) ∨ x7 = d - 2 ∧ r.kind = 9 ∧ 0 < kidsR r) → r.kind ≠ 0 →
      A77 N [1, 1, 1, 1] (head77_0 u t r d x7) (EndsQ cfg Try.f77.ntmps Try.f77.results.toList (res77 ((u, t, ()), r, d, ())) (resX77 ((u, t, ()), r, d, ()))) := by
    intro x7 hx7 hk0
    refine vc77_c0 _ _ _ _ _ _ _ ?_
    rintro y hy
    replace hy := hy.symm
    subst hy
    (simp only [vcT, bif_tl, bif_fr, bif_tlf, bif_frf, Bool.not_eq_true', Bool.not_eq_false', decide_eq_true_eq, decide_eq_false_iff_not, beq_iff_eq, beq_eq_false_iff_ne, bne_iff_ne, ne_eq, bne_eq_false_iff_eq, Bool.or_eq_true, Bool.and_eq_true, Bool.or_eq_false_iff, Bool.and_eq_false_imp])
    have herr : ∀ e : Int, (d < 1 ∨ x7 < 0) ∨ ¬ownX (unX r) ≤ t - u → (mean (segO r.a) d.toNat (unX r) (t - u)).2 = (t - u, 3) := by
      intro e h
      by_cases h1 : 1 ≤ d.toNat
      · rw [mean_eq h1]
        unfold stepM
        rw [if_neg (show ¬(unX r).kind = 0 from hk0), if_pos]
        rcases h with (h | h) | h
        · omega
        · refine .inr (.inl ⟨?_, ?_, by omega⟩)
          · show r.kind = 9; omega
          · show 0 < r.count
            have : r.kind = 9 ∧ 0 < kidsR r := by omega
            have hk := this.2
            unfold kidsR at hk
            rw [if_neg (by omega)] at hk
            exact hk
        · exact .inr (.inr (by omega))
      · rw [show d.toNat = 0 by omega, mean_zero, if_neg (show ¬(unX r).kind = 0 from hk0)]
    refine ⟨fun _ => hok, fun _ => ⟨h0, h1, h2, by show 0 ≤ ownX (unX r); omega⟩, fun h => ?_, fun h => ?_⟩
    · refine hr (herr 0 h) ?_
      have e1 : (bif !bif decide (d < 1) then true else decide (x7 < 0) then if ownX (unX r) ≤ t - u then u + ownX (unX r) else u else u) = t - (t - u) := by
        by_cases a1 : d < 1
        · simp [a1]; omega
        · by_cases a2 : x7 < 0
          · simp [a1, a2]; omega
          · rw [if_neg (by omega)]; simp [a1, a2]; omega
      have e2 : (bif !bif decide (d < 1) then true else decide (x7 < 0) then t else t) = t := by cases (!bif decide (d < 1) then true else decide (x7 < 0)) <;> rfl
      rw [e1, e2]
      (repeat' (first | exact trivial | exact rfl | refine And.intro ?_ ?_))
    · have e1 : (bif !bif decide (d < 1) then true else decide (x7 < 0) then if ownX (unX r) ≤ t - u then u + ownX (unX r) else u else u) = u + ownX (unX r) := by
        rw [if_pos h.2]; simp [h.1.1, h.1.2]
      have e2 : (bif !bif decide (d < 1) then true else decide (x7 < 0) then t else t) = t := by cases (!bif decide (d < 1) then true else decide (x7 < 0)) <;> rfl
      rw [e1, e2]
      have hD : 1 ≤ d.toNat := by omega
      have hM : (mean (segO r.a) d.toNat (unX r) (t - u)).2 = (loopM (kidM (segO r.a) (mean (segO r.a) (d.toNat - 1)) (mean (segO r.a) (d.toNat - 2)) (unX r)) (kidsX (unX r)).toNat 0 (t - u - ownX (unX r)) []).2 := by
        rw [mean_eq hD]
        unfold stepM
        rw [if_neg (show ¬(unX r).kind = 0 from hk0), if_neg]
        rintro (q | q | q)
        · omega
        · have q1 : r.kind = 9 := q.1
          have q2 : 0 < r.count := q.2.1
          have : kidsR r = r.count := by unfold kidsR; rw [if_neg (by omega)]
          have := q.2.2
          omega
        · omega
      refine ⟨trivial, trivial, fun hk => ?_, fun hk => ⟨trivial, ?_⟩⟩
      · refine hr (w := t - u - ownX (unX r)) (e := 0) ?_ ?_
        · rw [hM]
          exact loopM_data (fun i left => kidM_data (.inl hk)) _ _ _ _
        · rw [show t - (t - u - ownX (unX r)) = u + ownX (unX r) by omega]
          (repeat' (first | exact trivial | exact rfl | refine And.intro ?_ ?_))
      · by_cases h10 : r.kind = 10
        · have hc0 : kidsR r = 0 := by
            unfold kidsR
            rw [if_neg (by omega)]
            exact hx.zero (.inr h10)
          refine loop_rule (ι := Int) (fun i => head77_1 u t r d x7 i (u + ownX (unX r)) t) (fun i => i = 0) (fun _ => 0) 0 rfl rfl ?_
          rintro i rfl
          refine vc77_l1 _ _ _ _ _ _ _ _ _ _ _ ?_
          rintro y1 hy1 y2 hy2
          replace hy1 := hy1.symm
          subst hy1
          (simp only [vcT, bif_tl, bif_fr, bif_tlf, bif_frf, Bool.not_eq_true', Bool.not_eq_false', decide_eq_true_eq, decide_eq_false_iff_not, beq_iff_eq, beq_eq_false_iff_ne, bne_iff_ne, ne_eq, bne_eq_false_iff_eq, Bool.or_eq_true, Bool.and_eq_true, Bool.or_eq_false_iff, Bool.and_eq_false_imp])
          refine ⟨fun hi => by omega, fun _ => ?_⟩
          refine hr (w := t - u - ownX (unX r)) (e := 0) ?_ ?_
          · rw [hM, ← kidsR_un, hc0]; rfl
          · rw [show t - (t - u - ownX (unX r)) = u + ownX (unX r) by omega]
            (repeat' (first | exact trivial | exact rfl | refine And.intro ?_ ?_))
        · have hk9 : r.kind = 1 ∨ r.kind = 8 ∨ r.kind = 9 := by
            have := hx.kind
            simp only [unX] at this
            omega
          have hf : ∀ i left : Int, i < kidsR r → (kidM (segO r.a) (mean (segO r.a) (d.toNat - 1)) (mean (segO r.a) (d.toNat - 2)) (unX r) i left).2 = kidV (segO r.a) x7.toNat (unX r) i left ∨ i < 0 := by
            intro i left hi
            by_cases hi0 : i < 0
            · exact .inr hi0
            left
            by_cases h9 : r.kind = 9
            · rw [show x7.toNat = d.toNat - 2 by omega]; exact kidV_9 h9
            · rw [show x7.toNat = d.toNat - 1 by omega]; exact kidV_18 (by show r.kind = 1 ∨ r.kind = 8; omega)
          refine loop_rule (ι := Int × Int) (fun p => head77_1 u t r d x7 p.1 p.2 t) (fun p => 0 ≤ p.1 ∧ p.1 ≤ kidsR r ∧ 0 ≤ p.2 ∧ p.2 ≤ t ∧ (loopM (kidM (segO r.a) (mean (segO r.a) (d.toNat - 1)) (mean (segO r.a) (d.toNat - 2)) (unX r)) (kidsR r - p.1).toNat p.1 (t - p.2) []).2 = (mean (segO r.a) d.toNat (unX r) (t - u)).2) (fun p => (kidsR r - p.1).toNat) (0, u + ownX (unX r)) rfl ⟨by simp, by rw [kidsR_un]; exact hkl.1, by dsimp only; omega, by dsimp only; omega, ?_⟩ ?_
          · dsimp only
            rw [hM, kidsR_un, Int.sub_zero, show t - (u + ownX (unX r)) = t - u - ownX (unX r) by omega]
          rintro ⟨i, w⟩ ⟨i0, i1, w0, w1, hL⟩
          dsimp only at i0 i1 w0 w1 hL
          refine vc77_l1 _ _ _ _ _ _ _ _ _ _ _ ?_
          rintro y1 hy1 y2 hy2
          replace hy1 := hy1.symm
          subst hy1
          (simp only [vcT, bif_tl, bif_fr, bif_tlf, bif_frf, Bool.not_eq_true', Bool.not_eq_false', decide_eq_true_eq, decide_eq_false_iff_not, beq_iff_eq, beq_eq_false_iff_ne, bne_iff_ne, ne_eq, bne_eq_false_iff_eq, Bool.or_eq_true, Bool.and_eq_true, Bool.or_eq_false_iff, Bool.and_eq_false_imp])
          refine ⟨fun hi => ⟨⟨hok, w0, w1, h2, by dsimp only; omega, by dsimp only; omega, hk9⟩, ?_, fun he => ?_, fun he => ⟨?_, (i + 1, t - y2.1), rfl, ?_, by dsimp only; omega⟩⟩, fun hi => ?_⟩
          · show 3 * x7.toNat + (if r.kind = 9 then 2 else 1) < N
            split <;> omega
          · rw [loopM_step _ hi, (hf i (t - w) hi).resolve_right (by omega), ← hy2, if_neg he] at hL
            exact hr (w := y2.1) (e := y2.2) hL.symm (by (repeat' (first | exact trivial | exact rfl | refine And.intro ?_ ?_)))
          · have := hx.ptrs
            have := hx.count
            have : kidsR r < 536870912 := by unfold kidsR; split; exact Int.lt_trans hx.ptrs.2 (by decide); exact hx.count.2
            ((unfold InR; omega))
          · have hfi := kidV_fine ha hx (d := x7.toNat) (i := i) (left := t - w) (by omega)
            rw [← hy2] at hfi
            rw [loopM_step _ hi, (hf i (t - w) hi).resolve_right (by omega), ← hy2, if_pos he] at hL
            refine ⟨by dsimp only; omega, by dsimp only; omega, by dsimp only; omega, by dsimp only; omega, ?_⟩
            dsimp only
            rw [show t - (t - y2.1) = y2.1 by omega, ← hL]
          · rw [show (kidsR r - i).toNat = 0 by omega] at hL
            refine hr (w := t - w) (e := 0) hL.symm ?_
            rw [show t - (t - w) = w by omega]
            (repeat' (first | exact trivial | exact rfl | refine And.intro ?_ ?_))
  (simp only [vcT, bif_tl, bif_fr, bif_tlf, bif_frf, Bool.not_eq_true', Bool.not_eq_false', decide_eq_true_eq, decide_eq_false_iff_not, beq_iff_eq, beq_eq_false_iff_ne, bne_iff_ne, ne_eq, bne_eq_false_iff_eq, Bool.or_eq_true, Bool.and_eq_true, Bool.or_eq_false_iff, Bool.and_eq_false_imp])
  refine ⟨trivial, fun hk => ?_, fun hk => ⟨?_, trivial, fun _ => trivial, fun h9 => ⟨?_, ?_⟩, fun h9 => ?_⟩⟩
  · refine hr (w := t - u) (e := 0) ?_ ?_
    · rw [show unX r = xz from hx.null hk, mean_null]
    · rw [show t - (t - u) = u by omega]
      (repeat' (first | exact trivial | exact rfl | refine And.intro ?_ ?_))
  · ((unfold InR; omega))
  · ((unfold InR; omega))
  · exact cut _ (.inr ⟨by omega, h9.1, h9.2⟩) hk
  · exact cut _ (.inl ⟨rfl, by omega⟩) hk

theorem kidsM_2 {l : List (List Int)} {d : Nat} {x : XRef} (hk : x.kind = 1) (left : Int) : (kidsM l (mean l d) x left).2 = (loopM (kidM l (mean l d) (fun _ left => (Tree.nil, left, 3)) x) x.ptrs.toNat 0 left []).2 := by
  unfold kidsM
  have : (fun j left => if (kidX l x j).2 = 0 then mean l d (kidX l x j).1 left else (Tree.nil, left, (kidX l x j).2)) = kidM l (mean l d) (fun _ left => (Tree.nil, left, 3)) x := by
    funext j left
    unfold kidM
    split
    · rw [if_neg (by omega), if_pos (.inl hk)]
    · rfl
  rw [this]

theorem b108 : HB108 := by
  intro N u t r i d _ hp hN
  obtain ⟨⟨ha, hx⟩, h0, h1, h2, hd0, hd, hk⟩ := hp
  dsimp only at ha hx h0 h1 h2 hd0 hd hk
  have hN' : 3 * d.toNat + (if r.kind = 9 then 2 else 1) < N + 1 := hN
  have hok : okR r := ⟨ha, hx⟩
  have hkx := okX_kid ha hx i
  refine vc108 _ _ _ _ _ _ _ ?_
  rintro y hy z hz
  dsimp only at hy hz
  replace hy := hy.symm
  subst hy
  have ea : (kidX (segO r.a) (unX r) i).1 = (kidX (segO r.a) (unX r) i).1 := rfl
  have hokz : okR z := by rw [hz]; exact okR_lift ha hkx
  have hr : ∀ {e w : Int}, kidV (segO r.a) d.toNat (unX r) i (t - u) = (w, e) → ∀ {s : LSt U}, EndsQ cfg Try.f108.ntmps Try.f108.results.toList (.c (.int .i64 e)) [[.int .i64 (t - w), .int .i64 t]] .ret s →
      EndsQ cfg Try.f108.ntmps Try.f108.results.toList (res108 ((u, t, ()), r, i, d, ())) (resX108 ((u, t, ()), r, i, d, ())) .ret s := by
    intro e w he s hs
    refine ends_eq2 ?_ ?_ hs
    · simp only [res108]; rw [he]
    · simp only [resX108]; rw [he]
  (simp only [vcT, bif_tl, bif_fr, bif_tlf, bif_frf, Bool.not_eq_true', Bool.not_eq_false', decide_eq_true_eq, decide_eq_false_iff_not, beq_iff_eq, beq_eq_false_iff_ne, bne_iff_ne, ne_eq, bne_eq_false_iff_eq, Bool.or_eq_true, Bool.and_eq_true, Bool.or_eq_false_iff, Bool.and_eq_false_imp])
  refine ⟨hok, fun he => ?_, fun he => ⟨trivial, fun k9 => ⟨⟨hokz, h0, h1, h2, hd0, hd⟩, ?_, ?_⟩, fun k9 => ⟨trivial, ?_⟩⟩⟩
  · refine hr (w := t - u) (e := (kidX (segO r.a) (unX r) i).2) (by unfold kidV; rw [if_neg he]) ?_
    rw [show t - (t - u) = u by omega]
    (repeat' (first | exact trivial | exact rfl | refine And.intro ?_ ?_))
  · show 3 * d.toNat < N
    rw [if_neg k9] at hN'
    omega
  · have hm : mean (segO z.a) d.toNat (unX z) (t - u) = mean (segO r.a) d.toNat (kidX (segO r.a) (unX r) i).1 (t - u) := by rw [hz]; exact mean_lift hkx _ _
    rw [hm]
    refine hr (w := (mean (segO r.a) d.toNat (kidX (segO r.a) (unX r) i).1 (t - u)).2.1) (e := (mean (segO r.a) d.toNat (kidX (segO r.a) (unX r) i).1 (t - u)).2.2) (by unfold kidV; rw [if_pos he, if_neg (show ¬(unX r).kind = 9 from k9)]) ?_
    (repeat' (first | exact trivial | exact rfl | refine And.intro ?_ ?_))
  · rw [if_pos k9] at hN'
    by_cases hki : i < 0 ∨ kidsX (unX r) ≤ i
    · have hz0 : (kidX (segO r.a) (unX r) i) = (xz, 0) := by unfold kidX; rw [if_pos hki]
      have hzz : z = refZ := by rw [hz, hz0]; rfl
      refine loop_rule (ι := Int) (fun j => head108_0 u t r i d j u) (fun j => j = 0) (fun _ => 0) 0 rfl rfl ?_
      rintro j rfl
      refine vc108_l0 _ _ _ _ _ _ _ _ _ _ ?_
      rintro y1 hy1 y2 hy2 y3 hy3
      replace hy1 := hy1.symm
      subst hy1
      have e2 : y2 = refZ := by rw [hy2, ← hz, hzz]
      rw [e2]
      (simp only [vcT, bif_tl, bif_fr, bif_tlf, bif_frf, Bool.not_eq_true', Bool.not_eq_false', decide_eq_true_eq, decide_eq_false_iff_not, beq_iff_eq, beq_eq_false_iff_ne, bne_iff_ne, ne_eq, bne_eq_false_iff_eq, Bool.or_eq_true, Bool.and_eq_true, Bool.or_eq_false_iff, Bool.and_eq_false_imp])
      refine ⟨fun hi => by have : kidsR refZ = 0 := rfl; omega, fun _ => ?_⟩
      refine hr (w := t - u) (e := 0) ?_ ?_
      · unfold kidV
        rw [if_pos he, if_pos (show (unX r).kind = 9 from k9), hz0]
        rfl
      · rw [show t - (t - u) = u by omega]
        (repeat' (first | exact trivial | exact rfl | refine And.intro ?_ ?_))
    · have hzx : (kidX (segO r.a) (unX r) i).1.kind = 1 := by
        unfold kidX
        rw [if_neg hki, if_neg (show ¬(unX r).kind = 1 by show ¬r.kind = 1; omega), if_neg (show ¬(unX r).kind = 8 by show ¬r.kind = 8; omega), if_pos (show (unX r).kind = 9 from k9)]
      have hza : z.a = r.a := by rw [hz]; exact a_lift (x := (kidX (segO r.a) (unX r) i).1) (by rw [hzx]; decide)
      have hzu : unX z = (kidX (segO r.a) (unX r) i).1 := by rw [hz]; exact unX_lift hkx
      have hzk : z.kind = 1 := (congrArg XRef.kind hzu).trans hzx
      have hkz : kidsR z = (kidX (segO r.a) (unX r) i).1.ptrs := by rw [kidsR_un, hzu]; unfold kidsX; rw [if_pos hzx]
      have hpz := hkx.ptrs
      have hV : kidV (segO r.a) d.toNat (unX r) i (t - u) = (loopM (kidM (segO r.a) (mean (segO r.a) d.toNat) (fun _ left => (Tree.nil, left, 3)) (unX z)) (kidsR z).toNat 0 (t - u) []).2 := by
        unfold kidV
        rw [if_pos he, if_pos (show (unX r).kind = 9 from k9), kidsM_2 hzx, hzu, hkz]
      refine loop_rule (ι := Int × Int) (fun p => head108_0 u t r i d p.1 p.2) (fun p => 0 ≤ p.1 ∧ p.1 ≤ kidsR z ∧ 0 ≤ p.2 ∧ p.2 ≤ t ∧ (loopM (kidM (segO r.a) (mean (segO r.a) d.toNat) (fun _ left => (Tree.nil, left, 3)) (unX z)) (kidsR z - p.1).toNat p.1 (t - p.2) []).2 = kidV (segO r.a) d.toNat (unX r) i (t - u)) (fun p => (kidsR z - p.1).toNat) (0, u) rfl ⟨by simp, by dsimp only; omega, by dsimp only; omega, by dsimp only; omega, ?_⟩ ?_
      · dsimp only
        rw [hV, Int.sub_zero]
      rintro ⟨j, w⟩ ⟨i0, i1, w0, w1, hL⟩
      dsimp only at i0 i1 w0 w1 hL
      refine vc108_l0 _ _ _ _ _ _ _ _ _ _ ?_
      rintro y1 hy1 y2 hy2 y3 hy3
      replace hy1 := hy1.symm
      subst hy1
      rw [← hz] at hy2
      subst hy2
      (simp only [vcT, bif_tl, bif_fr, bif_tlf, bif_frf, Bool.not_eq_true', Bool.not_eq_false', decide_eq_true_eq, decide_eq_false_iff_not, beq_iff_eq, beq_eq_false_iff_ne, bne_iff_ne, ne_eq, bne_eq_false_iff_eq, Bool.or_eq_true, Bool.and_eq_true, Bool.or_eq_false_iff, Bool.and_eq_false_imp])
      rw [hza] at hy3
      have hf := kidV_18 (l := segO r.a) (d := d.toNat) (m' := fun _ left => (Tree.nil, left, 3)) (x := unX y2) (i := j) (left := t - w) (.inl hzk)
      refine ⟨fun hi => ⟨⟨hokz, w0, w1, h2, hd0, hd, .inl hzk⟩, ?_, fun hn => ?_, fun hn => ⟨by ((unfold InR; omega)), (j + 1, t - y3.1), rfl, ?_, by dsimp only; omega⟩⟩, fun hi => ?_⟩
      · show 3 * d.toNat + (if y2.kind = 9 then 2 else 1) < N
        rw [if_neg (by omega)]
        omega
      · rw [loopM_step _ hi, hf, ← hy3, if_neg hn] at hL
        exact hr (w := y3.1) (e := y3.2) hL.symm (by (repeat' (first | exact trivial | exact rfl | refine And.intro ?_ ?_)))
      · have hfi := kidV_fine ha (x := unX y2) (by rw [hzu]; exact hkx) (d := d.toNat) (i := j) (left := t - w) (by omega)
        rw [← hy3] at hfi
        rw [loopM_step _ hi, hf, ← hy3, if_pos hn] at hL
        refine ⟨by dsimp only; omega, by dsimp only; omega, by dsimp only; omega, by dsimp only; omega, ?_⟩
        dsimp only
        rw [show t - (t - y3.1) = y3.1 by omega, ← hL]
      · rw [show (kidsR y2 - j).toNat = 0 by omega] at hL
        refine hr (w := t - w) (e := 0) hL.symm ?_
        rw [show t - (t - w) = w by omega]
        (repeat' (first | exact trivial | exact rfl | refine And.intro ?_ ?_))

theorem c77_ : Contract Try.prog cfg 77 spec77 ∧ Contract Try.prog cfg 108 spec108 := make77_ c106 c105 c107 c22 c23 c24 b77 b108
theorem c77 : Contract Try.prog cfg 77 spec77 := c77_.1

theorem limV_ok (x : Limits) : 0 ≤ (limV x).depth ∧ (limV x).depth ≤ 64 ∧ 0 ≤ (limV x).weight ∧ (limV x).weight ≤ 65536 := by
  show 0 ≤ clampI x.depth 64 ∧ clampI x.depth 64 ≤ 64 ∧ 0 ≤ clampI x.weight 65536 ∧ clampI x.weight 65536 ≤ 65536
  unfold clampI
  refine ⟨?_, ?_, ?_, ?_⟩ <;> (repeat' split) <;> omega

theorem c40 : Contract Try.prog cfg 40 spec40 := by
  refine make40 c45 c21 c77 ?_
  intro a x _ ha
  simp only [pre40] at ha
  refine vc40 _ _ _ ?_
  rintro y hy z hz m hm
  dsimp only at hy hz hm
  replace hy := hy.symm
  subst hy
  have hx := okX_at ha 0 0
  have hl := limV_ok x
  have hm' : m = mean (segO a) (limV x).depth.toNat (refAt (segO a) 0 0).1 (limV x).weight := by rw [hm, hz, Int.sub_zero]; exact mean_lift hx _ _
  clear hm
  (simp only [vcT, bif_tl, bif_fr, bif_tlf, bif_frf, Bool.not_eq_true', Bool.not_eq_false', decide_eq_true_eq, decide_eq_false_iff_not, beq_iff_eq, beq_eq_false_iff_ne, bne_iff_ne, ne_eq, bne_eq_false_iff_eq, Bool.or_eq_true, Bool.and_eq_true, Bool.or_eq_false_iff, Bool.and_eq_false_imp])
  refine ⟨trivial, ha, fun h => ?_, fun h => ⟨⟨by rw [hz]; exact okR_lift ha hx, ?_⟩, fun h2 => ?_, fun h2 => ?_⟩⟩
  · refine ends_eq (r' := .tup [(false, [.int .i64 0]), (false, [.int .i64 (refAt (segO a) 0 0).2])]) ?_ (by (repeat' (first | exact trivial | exact rfl | refine And.intro ?_ ?_)))
    simp only [res40]
    rw [show unfV (segO a) x = (Tree.nil, 0, (refAt (segO a) 0 0).2) by unfold unfV; rw [if_neg h]]
  · dsimp only
    omega
  · refine ends_eq (r' := .tup [(false, [.int .i64 0]), (false, [.int .i64 m.2.2])]) ?_ (by (repeat' (first | exact trivial | exact rfl | refine And.intro ?_ ?_)))
    simp only [res40]
    rw [show unfV (segO a) x = (Tree.nil, 0, m.2.2) by unfold unfV; rw [if_pos h, ← hm', if_neg h2]]
  · refine ends_eq (r' := .tup [(false, [.int .i64 ((limV x).weight - m.2.1)]), (false, [.int .i64 0])]) ?_ (by (repeat' (first | exact trivial | exact rfl | refine And.intro ?_ ?_)))
    simp only [res40]
    rw [show unfV (segO a) x = (m.1, (limV x).weight - m.2.1, 0) by unfold unfV; rw [if_pos h, ← hm', if_pos h2]]

end Go.AM.Ythokdjgpdonhgaa

namespace Go.AM.Ythokdjgpdonhgaa
open Go.AM Go.Proofs

def args42 : ArgL (Unit) := .nil
def pre42 (a : Unit) : Prop := True
noncomputable def res42 (a : Unit) : V U := .c (.bool true)
noncomputable def spec42 : Fs U := fs args42 (fun a => [pre42 a]) res42

noncomputable def know42 : List (FuncId × Fs U) := [(20, spec20), (40, spec40)]
def lv42 : Lives U := fun i => match i with
  | 0 => ([], [])
  | 1 => ([(1, [])], [])
  | 2 => ([(1, []), (2, []), (3, [])], [])
  | 3 => ([(2, []), (3, []), (5, [])], [])
  | 4 => ([(0, [])], [])
  | _ => ([], [])
noncomputable abbrev A42 (p : List Nat) := awp cfg (know know42) (drawOk cfg (know know42)) Try.f42.ntmps lv42 (cd Try.f42 p)
theorem vc42 (Q : AExit → LSt U → Prop) (h : ((pre20 (([[4294967296, 7]]), ())) ∧ ((pre40 ((some (Arena.mk ([[4294967296, 7]]) 0 0 0)), (Limits.mk 1 2 0 0), ())) ∧ ((pre40 ((some (Arena.mk ([[4294967296, 7]]) 0 0 0)), (Limits.mk 1 1 0 0), ())) ∧ ((Tr (((((unfV (segO (some (Arena.mk ([[4294967296, 7]]) 0 0 0))) (Limits.mk 1 2 0 0)).2.1) : Int) == 2) = true)) ∧ ((Tr (((((unfV (segO (some (Arena.mk ([[4294967296, 7]]) 0 0 0))) (Limits.mk 1 2 0 0)).2.1) : Int) == 2) = true))) ∧ (Tr ((bif ((((unfV (segO (some (Arena.mk ([[4294967296, 7]]) 0 0 0))) (Limits.mk 1 2 0 0)).2.1) : Int) == 2) then ((((unfV (segO (some (Arena.mk ([[4294967296, 7]]) 0 0 0))) (Limits.mk 1 2 0 0)).2.2) : Int) == 0) else false) = true)) ∧ ((Tr ((bif ((((unfV (segO (some (Arena.mk ([[4294967296, 7]]) 0 0 0))) (Limits.mk 1 2 0 0)).2.1) : Int) == 2) then ((((unfV (segO (some (Arena.mk ([[4294967296, 7]]) 0 0 0))) (Limits.mk 1 2 0 0)).2.2) : Int) == 0) else false) = true))) ∧ (Q .ret (⟨[(0, .c (.bool (bif (bif ((((unfV (segO (some (Arena.mk ([[4294967296, 7]]) 0 0 0))) (Limits.mk 1 2 0 0)).2.1) : Int) == 2) then ((((unfV (segO (some (Arena.mk ([[4294967296, 7]]) 0 0 0))) (Limits.mk 1 2 0 0)).2.2) : Int) == 0) else false) then ((((unfV (segO (some (Arena.mk ([[4294967296, 7]]) 0 0 0))) (Limits.mk 1 1 0 0)).2.2) : Int) == 3) else false)))], [], []⟩ : LSt U))))))) :
    A42 [] (⟨[], [], []⟩ : LSt U) Q :=
  Eq.mpr (by kernel_rfl) h
def Body42  : Prop := awp cfg (know (know42)) (drawOk cfg (know (know42))) Try.f42.ntmps lv42 (cd Try.f42 []) (entry (args42.can (())) []) (EndsQ cfg Try.f42.ntmps Try.f42.results.toList (res42 (())) [])
theorem make42 (c20 : Contract Try.prog cfg 20 spec20) (c40 : Contract Try.prog cfg 40 spec40) (hb : ∀ (_ : Unit), pre42 (()) → Body42 ) : Contract Try.prog cfg 42 spec42 :=
  contract_flat (l := [(20, spec20), (40, spec40)]) cfgOk rfl (⟨c20, c40, trivial⟩) lv42 Try.func42 rfl rfl 0 (fun _ => rfl) (by decide) (fun _ => hb  ())

end Go.AM.Ythokdjgpdonhgaa

namespace Go.AM.Ythokdjgpdonhgaa
open Go.AM Go.Proofs

theorem c42 : Contract Try.prog cfg 42 spec42 := by
  refine make42 c20 c40 ?_
  intro _ _
  refine vc42 _ ?_
  have e1 : unfV (segO (some (Arena.mk [[4294967296, 7]] 0 0 0))) (Limits.mk 1 2 0 0) = (⟨1, [7], []⟩, 2, 0) := by rfl
  have e2 : unfV (segO (some (Arena.mk [[4294967296, 7]] 0 0 0))) (Limits.mk 1 1 0 0) = (Tree.nil, 0, 3) := by rfl
  rw [e1, e2]
  (simp only [vcT, bif_tl, bif_fr, bif_tlf, bif_frf, Bool.not_eq_true', Bool.not_eq_false', decide_eq_true_eq, decide_eq_false_iff_not, beq_iff_eq, beq_eq_false_iff_ne, bne_iff_ne, ne_eq, bne_eq_false_iff_eq, Bool.or_eq_true, Bool.and_eq_true, Bool.or_eq_false_iff, Bool.and_eq_false_imp])
  refine ⟨aw_ok, aw_ok, aw_ok, ?_⟩
  exact ends_bool rfl rfl

end Go.AM.Ythokdjgpdonhgaa

namespace Go.AM

def More (r r' : Tree × Int × Int) (k : Int) : Prop := r.2.2 = 0 → r' = (r.1, r.2.1 + k, 0)
def MoreM (m m' : XRef → Int → Tree × Int × Int) (k : Int) : Prop := ∀ x left, More (m x left) (m' x (left + k)) k

theorem loopM_more {f g : Int → Int → Tree × Int × Int} {k : Int} (h : ∀ i left, More (f i left) (g i (left + k)) k) : ∀ (n : Nat) (i left : Int) (acc : List Tree), (loopM f n i left acc).2.2 = 0 →
    loopM g n i (left + k) acc = ((loopM f n i left acc).1, (loopM f n i left acc).2.1 + k, 0)
  | 0, _, _, _, _ => rfl
  | n + 1, i, left, acc, h0 => by
    simp only [loopM] at h0 ⊢
    by_cases he : (f i left).2.2 = 0
    · rw [if_pos he] at h0 ⊢
      have hg := h i left he
      rw [hg]
      simp only
      rw [if_pos trivial]
      exact loopM_more h n (i + 1) (f i left).2.1 (acc ++ [(f i left).1]) h0
    · rw [if_neg he] at h0
      exact absurd h0 he

theorem kidsM_more {l : List (List Int)} {m m' : XRef → Int → Tree × Int × Int} {k : Int} (h : MoreM m m' k) (x : XRef) (left : Int) : More (kidsM l m x left) (kidsM l m' x (left + k)) k := by
  intro h0
  unfold kidsM at h0 ⊢
  have := loopM_more (f := fun j left => if (kidX l x j).2 = 0 then m (kidX l x j).1 left else (Tree.nil, left, (kidX l x j).2)) (g := fun j left => if (kidX l x j).2 = 0 then m' (kidX l x j).1 left else (Tree.nil, left, (kidX l x j).2)) (k := k) (by
    intro i left hi
    by_cases he : (kidX l x i).2 = 0
    · simp only [he, if_true] at hi ⊢
      exact h _ _ hi
    · simp only [he, if_false] at hi) x.ptrs.toNat 0 left [] h0
  rw [this]

theorem kidM_more {l : List (List Int)} {m m' n n' : XRef → Int → Tree × Int × Int} {k : Int} (h : MoreM m m' k) (h' : MoreM n n' k) (x : XRef) (i left : Int) : More (kidM l m n x i left) (kidM l m' n' x i (left + k)) k := by
  intro h0
  unfold kidM at h0 ⊢
  by_cases he : (kidX l x i).2 = 0
  · rw [if_pos he] at h0 ⊢
    rw [if_pos he]
    by_cases h9 : x.kind = 9
    · rw [if_pos h9] at h0 ⊢
      rw [if_pos h9]
      exact kidsM_more h' _ _ h0
    · rw [if_neg h9] at h0 ⊢
      rw [if_neg h9]
      by_cases h1 : x.kind = 1 ∨ x.kind = 8
      · rw [if_pos h1] at h0 ⊢
        rw [if_pos h1]
        exact h _ _ h0
      · rw [if_neg h1, if_neg h1]
  · rw [if_neg he] at h0
    exact absurd h0 he

theorem stepM_more {l : List (List Int)} {d d' : Nat} (hd : d ≤ d') {m m' n n' : XRef → Int → Tree × Int × Int} {k : Int} (hk : 0 ≤ k) (h : MoreM m m' k) (h' : MoreM n n' k) : MoreM (stepM l d m n) (stepM l d' m' n') k := by
  intro x left h0
  unfold stepM at h0 ⊢
  by_cases h1 : x.kind = 0
  · rw [if_pos h1, if_pos h1]
  · rw [if_neg h1] at h0 ⊢
    rw [if_neg h1]
    by_cases h2 : d = 0 ∨ (x.kind = 9 ∧ 0 < x.count ∧ d < 2) ∨ left < ownX x
    · rw [if_pos h2] at h0; cases h0
    · rw [if_neg h2] at h0 ⊢
      rw [if_neg (show ¬(d' = 0 ∨ (x.kind = 9 ∧ 0 < x.count ∧ d' < 2) ∨ left + k < ownX x) by
        rintro (q | q | q)
        · exact h2 (.inl (by omega))
        · exact h2 (.inr (.inl ⟨q.1, q.2.1, by omega⟩))
        · exact h2 (.inr (.inr (by omega))))]
      have := loopM_more (k := k) (fun i left => kidM_more (l := l) h h' x i left) (kidsX x).toNat 0 (left - ownX x) [] h0
      rw [show left + k - ownX x = left - ownX x + k by omega, this]

theorem none_more {m' : XRef → Int → Tree × Int × Int} {k : Int} : MoreM (fun _ left => (Tree.nil, left, 3)) m' k := fun _ _ h => by cases h

theorem mean_more {l : List (List Int)} {k : Int} (hk : 0 ≤ k) : ∀ (d d' : Nat), d ≤ d' → MoreM (mean l d) (mean l d') k := by
  intro d
  induction d using Nat.strongRecOn with
  | ind d ih =>
    intro d' hd
    match d, d', hd with
    | 0, 0, hd => exact stepM_more hd hk none_more none_more
    | 0, 1, hd => exact stepM_more hd hk none_more none_more
    | 0, d' + 2, hd => exact stepM_more hd hk none_more none_more
    | 1, 1, hd => exact stepM_more hd hk (ih 0 (by omega) 0 (by omega)) none_more
    | 1, d' + 2, hd => exact stepM_more hd hk (ih 0 (by omega) (d' + 1) (by omega)) none_more
    | d + 2, d' + 2, hd => exact stepM_more hd hk (ih (d + 1) (by omega) (d' + 1) (by omega)) (ih d (by omega) d' (by omega))

end Go.AM

namespace Go.AM.Ythokdjgpdonhgaa
open Go.AM Go.Proofs

def args10 : ArgL (List (List Int) × Limits × Int × Int × Unit) := (.cons (aSl .words) (.cons (aEl .limits) (.cons (aInt .u8) (.cons (aInt .u8) .nil))))
def pre10 (a : List (List Int) × Limits × Int × Int × Unit) : Prop := okSeg a.1 ∧ 0 ≤ a.2.2.1 ∧ a.2.2.1 < 256 ∧ 0 ≤ a.2.2.2.1 ∧ a.2.2.2.1 < 256
noncomputable def res10 (a : List (List Int) × Limits × Int × Int × Unit) : V U := .c (.bool true)
noncomputable def spec10 : Fs U := fs args10 (fun a => [pre10 a]) res10

noncomputable def know10 : List (FuncId × Fs U) := [(39, spec39), (20, spec20), (40, spec40), (45, spec45), (42, spec42)]
def lv10 : Lives U := fun i => match i with
  | 0 => ([(0, []), (2, []), (3, []), (5, [])], [((.loc 5), [])])
  | 1 => ([(0, []), (2, []), (3, []), (5, [])], [((.loc 5), [])])
  | 2 => ([(0, []), (2, []), (3, []), (5, []), (9, []), (10, [])], [((.loc 5), [])])
  | 3 => ([(0, []), (2, []), (3, []), (9, []), (10, []), (11, [])], [((.loc 11), [])])
  | 4 => ([(0, []), (3, []), (9, []), (10, []), (11, [])], [((.loc 11), [])])
  | 5 => ([(0, []), (9, []), (10, []), (11, [])], [((.loc 11), [])])
  | 6 => ([(9, []), (10, []), (12, []), (13, [])], [])
  | 7 => ([(8, [])], [])
  | _ => ([], [])
noncomputable abbrev A10 (p : List Nat) := awp cfg (know know10) (drawOk cfg (know know10)) Try.f10.ntmps lv10 (cd Try.f10 p)
theorem vc10 (l : List (List Int)) (x : Limits) (deep : Int) (heavy : Int) (Q : AExit → LSt U → Prop) (h : ∀ y_1, y_1 = (x) → ∀ y_2, y_2 = ((lightV y_1)) → ∀ y_3, y_3 = (Limits.mk (((Limits.depth (limV y_2)) : Int) + (IntKind.wrap .i64 deep)) (((Limits.weight (limV y_2)) : Int) + (IntKind.wrap .i64 heavy)) (Limits.maxD (limV y_2)) (Limits.maxOut (limV y_2))) → ((pre39 (y_1, ())) ∧ ((pre20 (l, ())) ∧ (pre40 ((some (Arena.mk l 0 0 0)), y_2, ())) ∧ ((pre45 (y_2, ())) ∧ ((InR (((Limits.depth (limV y_2)) : Int) + (IntKind.wrap .i64 deep))) ∧ ((InR (((Limits.weight (limV y_2)) : Int) + (IntKind.wrap .i64 heavy))) ∧ ((pre20 (l, ())) ∧ (pre40 ((some (Arena.mk l 0 0 0)), y_3, ())) ∧ ((Tr ((!((((unfV (segO (some (Arena.mk l 0 0 0))) y_2).2.2) : Int) != 0)) = true)) ∧ (Tr ((!((((unfV (segO (some (Arena.mk l 0 0 0))) y_2).2.2) : Int) != 0)) = true)) ∧ (Tr (((!((((unfV (segO (some (Arena.mk l 0 0 0))) y_2).2.2) : Int) != 0)) && ((((unfV (segO (some (Arena.mk l 0 0 0))) y_3).2.2) : Int) == 0)) = true)) ∧ (Tr (((!((((unfV (segO (some (Arena.mk l 0 0 0))) y_2).2.2) : Int) != 0)) && ((((unfV (segO (some (Arena.mk l 0 0 0))) y_3).2.2) : Int) == 0)) = true)) ∧ ((!((((unfV (segO (some (Arena.mk l 0 0 0))) y_2).2.2) : Int) != 0)) = true → (True → (!((((unfV (segO (some (Arena.mk l 0 0 0))) y_2).2.2) : Int) != 0)) = true)) ∧ ((!((((unfV (segO (some (Arena.mk l 0 0 0))) y_2).2.2) : Int) != 0)) = true → (((((unfV (segO (some (Arena.mk l 0 0 0))) y_3).2.2) : Int) == 0) = true → ((!((((unfV (segO (some (Arena.mk l 0 0 0))) y_2).2.2) : Int) != 0)) && ((((unfV (segO (some (Arena.mk l 0 0 0))) y_3).2.2) : Int) == 0)) = true)) ∧ ((((((unfV (segO (some (Arena.mk l 0 0 0))) y_2).2.2) : Int) != 0) = false → (!((((unfV (segO (some (Arena.mk l 0 0 0))) y_2).2.2) : Int) != 0)) = true)) ∧ ((bif ((((unfV (segO (some (Arena.mk l 0 0 0))) y_2).2.2) : Int) != 0) then true else (bif ((((unfV (segO (some (Arena.mk l 0 0 0))) y_3).2.2) : Int) == 0) then ((((unfV (segO (some (Arena.mk l 0 0 0))) y_2).2.1) : Int) == ((unfV (segO (some (Arena.mk l 0 0 0))) y_3).2.1)) else false)) = true → pre42 (())) ∧ ((Tr ((bif ((((unfV (segO (some (Arena.mk l 0 0 0))) y_2).2.2) : Int) != 0) then true else (bif ((((unfV (segO (some (Arena.mk l 0 0 0))) y_3).2.2) : Int) == 0) then ((((unfV (segO (some (Arena.mk l 0 0 0))) y_2).2.1) : Int) == ((unfV (segO (some (Arena.mk l 0 0 0))) y_3).2.1)) else false)) = true))) ∧ (Q .ret (⟨[(8, .c (.bool (bif (bif ((((unfV (segO (some (Arena.mk l 0 0 0))) y_2).2.2) : Int) != 0) then true else (bif ((((unfV (segO (some (Arena.mk l 0 0 0))) y_3).2.2) : Int) == 0) then ((((unfV (segO (some (Arena.mk l 0 0 0))) y_2).2.1) : Int) == ((unfV (segO (some (Arena.mk l 0 0 0))) y_3).2.1)) else false)) then true else false)))], [], []⟩ : LSt U)))))))))) :
    A10 [] (⟨[(0, .c (.slice (U := U) .words l .unk)), (1, .agg [.int .i64 (Limits.depth x), .int .i64 (Limits.weight x), .int .i64 (Limits.maxD x), .int .i64 (Limits.maxOut x)]), (2, .c (.int .u8 deep)), (3, .c (.int .u8 heavy))], [], []⟩ : LSt U) Q :=
  Eq.mpr (by kernel_rfl) (h _ (reLimits_eq _) _ (reLimits_eq _) _ rfl)
def Body10 (l : List (List Int)) (x : Limits) (deep : Int) (heavy : Int)  : Prop := awp cfg (know (know10)) (drawOk cfg (know (know10))) Try.f10.ntmps lv10 (cd Try.f10 []) (entry (args10.can (l, x, deep, heavy, ())) []) (EndsQ cfg Try.f10.ntmps Try.f10.results.toList (res10 (l, x, deep, heavy, ())) [])
theorem make10 (c39 : Contract Try.prog cfg 39 spec39) (c20 : Contract Try.prog cfg 20 spec20) (c40 : Contract Try.prog cfg 40 spec40) (c45 : Contract Try.prog cfg 45 spec45) (c42 : Contract Try.prog cfg 42 spec42) (hb : ∀ (l : List (List Int)) (x : Limits) (deep : Int) (heavy : Int) (_ : Unit), pre10 (l, x, deep, heavy, ()) → Body10 l x deep heavy) : Contract Try.prog cfg 10 spec10 :=
  contract_flat (l := [(39, spec39), (20, spec20), (40, spec40), (45, spec45), (42, spec42)]) cfgOk rfl (⟨c39, c20, c40, c45, c42, trivial⟩) lv10 Try.func10 rfl rfl 4 (fun _ => rfl) (by decide) (fun ⟨l, x, deep, heavy, _⟩ => hb l x deep heavy ())

end Go.AM.Ythokdjgpdonhgaa

namespace Go.AM.Ythokdjgpdonhgaa
open Go.AM Go.Proofs

theorem clamp_ge {n t k : Int} (hk : 0 ≤ k) (ht : 0 ≤ t) : clampI n t ≤ clampI (clampI n t + k) t := by
  unfold clampI
  (repeat' split) <;> omega

theorem unfV_more {l : List (List Int)} {x y : Limits} (hd : (limV x).depth ≤ (limV y).depth) (hw : (limV x).weight ≤ (limV y).weight) (h : (unfV l x).2.2 = 0) : unfV l y = unfV l x := by
  unfold unfV at h ⊢
  by_cases h0 : (refAt l 0 0).2 = 0
  · rw [if_pos h0] at h ⊢
    rw [if_pos h0]
    by_cases h1 : (mean l (limV x).depth.toNat (refAt l 0 0).1 (limV x).weight).2.2 = 0
    · have hm := mean_more (l := l) (k := (limV y).weight - (limV x).weight) (by omega) (limV x).depth.toNat (limV y).depth.toNat (by omega) (refAt l 0 0).1 (limV x).weight h1
      rw [show (limV x).weight + ((limV y).weight - (limV x).weight) = (limV y).weight by omega] at hm
      rw [hm, if_pos h1]
      simp only
      rw [if_pos trivial]
      simp only [Prod.mk.injEq, true_and, and_true]
      omega
    · rw [if_neg h1] at h
      exact absurd h h1
  · rw [if_neg h0, if_neg h0]

theorem c10 : Contract Try.prog cfg 10 spec10 := by
  refine make10 c39 c20 c40 c45 c42 ?_
  intro l x a b _ hp
  obtain ⟨hl, ha0, ha1, hb0, hb1⟩ := hp
  dsimp only at hl ha0 ha1 hb0 hb1
  refine vc10 _ _ _ _ _ ?_
  rintro y1 h1 y2 h2 y3 h3
  dsimp only at h1 h2 h3
  have hv := limV_ok y2
  rw [wrap_i64 (by omega) (by omega), wrap_i64 (by omega) (by omega)] at h3
  have hA : segO (some (Arena.mk l 0 0 0)) = l := rfl
  rw [hA, wrap_i64 (n := a) (by omega) (by omega), wrap_i64 (n := b) (by omega) (by omega)]
  have hd : (limV y2).depth ≤ (limV y3).depth := by
    show clampI y2.depth 64 ≤ clampI y3.depth 64
    rw [show y3.depth = clampI y2.depth 64 + a by rw [h3]; rfl]
    exact clamp_ge ha0 (by decide)
  have hw : (limV y2).weight ≤ (limV y3).weight := by
    show clampI y2.weight 65536 ≤ clampI y3.weight 65536
    rw [show y3.weight = clampI y2.weight 65536 + b by rw [h3]; rfl]
    exact clamp_ge hb0 (by decide)
  have hm := unfV_more (l := l) hd hw
  (simp only [vcT, bif_tl, bif_fr, bif_tlf, bif_frf, Bool.not_eq_true', Bool.not_eq_false', decide_eq_true_eq, decide_eq_false_iff_not, beq_iff_eq, beq_eq_false_iff_ne, bne_iff_ne, ne_eq, bne_eq_false_iff_eq, Bool.or_eq_true, Bool.and_eq_true, Bool.or_eq_false_iff, Bool.and_eq_false_imp])
  refine ⟨trivial, hl, hl, trivial, by ((unfold InR; omega)), by ((unfold InR; omega)), hl, hl, fun p q => ⟨p, q⟩, fun _ => trivial, ends_bool rfl ?_⟩
  by_cases h : (unfV l y2).2.2 = 0
  · rw [hm h, h]; simp
  · have : ((unfV l y2).2.2 != 0) = true := by simpa using h
    rw [this]; rfl
end Go.AM.Ythokdjgpdonhgaa
