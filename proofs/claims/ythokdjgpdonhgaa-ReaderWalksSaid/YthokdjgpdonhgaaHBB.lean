import Derived.Test.YthokdjgpdonhgaaQGa
import Derived.Test.YthokdjgpdonhgaaRows
import Derived.Test.YthokdjgpdonhgaaBmX
import Derived.ProofKit
set_option linter.unusedSimpArgs false
set_option linter.unusedVariables false
namespace Go.AM.Ythokdjgpdonhgaa
open Go.AM Go.Proofs

theorem kidX_z (l : List (List Int)) (i : Int) : kidX l xz i = (xz, 0) := by
  unfold kidX kidsX xz
  rw [if_pos (by simp; omega)]

theorem kid_lift {a : Option Arena} {x : XRef} (h : OkX (segO a) x) (i : Int) :
    (kidX (segO (liftX a x).a) (unX (liftX a x)) i).2 = (kidX (segO a) x i).2 ∧ liftX (liftX a x).a (kidX (segO (liftX a x).a) (unX (liftX a x)) i).1 = liftX a (kidX (segO a) x i).1 := by
  rw [unX_lift h]
  by_cases h0 : x.kind = 0
  · rw [h.null h0, kidX_z, kidX_z]; exact ⟨rfl, rfl⟩
  · rw [a_lift h0]; exact ⟨rfl, rfl⟩

theorem wordR_lift {a : Option Arena} {x : XRef} (h : OkX (segO a) x) (i : Int) : wordR (liftX a x) i = if i < 0 then 0 else (wordsX (segO a) x).getD i.toNat 0 := by
  unfold wordR
  rw [unX_lift h]
  by_cases h0 : x.kind = 0
  · rw [h.null h0]; rfl
  · rw [a_lift h0]

theorem lenR_lift {a : Option Arena} {x : XRef} (h : OkX (segO a) x) : lenR (liftX a x) = ((wordsX (segO a) x).length : Int) := by
  rw [wordsX_len h]
  have e := unX_lift (a := a) h
  show (if (unX (liftX a x)).kind = 1 then (unX (liftX a x)).data else if (unX (liftX a x)).kind = 10 then 1 else 0) = _
  rw [e]

theorem c28 : Contract Try.prog cfg 28 spec28 := by
  refine make28 c67 c22 c59 c23 c29 c68 c25 ?_
  intro r x l _ hp
  obtain ⟨hl, hx, a, hra, hla⟩ := hp
  dsimp only at hl hx hra hla
  subst hla
  have hu := unX_lift (a := a) hx
  rw [← hra] at hu
  have e1 : r.kind = x.kind := congrArg XRef.kind hu
  have e2 : r.data = x.data := congrArg XRef.data hu
  have e3 : r.kids = x.ptrs := congrArg XRef.ptrs hu
  have e4 : kidsR r = kidsX x := by rw [kidsR_un, hu]
  have e5 : lenR r = ((wordsX (segO a) x).length : Int) := by rw [hra]; exact lenR_lift hx
  have hok : okR r := by rw [hra]; exact okR_lift hl hx
  have hfr := hx.frame
  have hd := hx.data
  have hpt := hx.ptrs
  have hlen := wordsX_len hx
  refine vc28 _ _ _ _ ?_
  rintro y1 h1 y2 h2
  dsimp only at h1 h2
  replace h1 := h1.symm
  replace h2 := h2.symm
  subst h1 h2
  (simp only [vcT, bif_tl, bif_fr, bif_tlf, bif_frf, Bool.not_eq_true', Bool.not_eq_false', decide_eq_true_eq, decide_eq_false_iff_not, beq_iff_eq, beq_eq_false_iff_ne, bne_iff_ne, ne_eq, bne_eq_false_iff_eq, Bool.or_eq_true, Bool.and_eq_true, Bool.or_eq_false_iff, Bool.and_eq_false_imp])
  refine ⟨⟨hl, hx⟩, trivial, fun _ => trivial, fun _ => trivial, fun _ => trivial, fun h => ?_, fun _ => ⟨trivial, fun h1 h2 => ⟨h1, h2⟩, fun h => ?_, fun h1 h2 => ⟨h1, h2⟩, fun h => ?_, fun h => ?_⟩⟩
  · exfalso; omega
  · rw [if_neg (by omega), if_neg (by omega)]; ((unfold InR; omega))
  · exfalso
    rw [e1, e2, e3] at h
    by_cases h9 : x.kind = 9
    · rw [if_pos h9, if_pos h9] at h; omega
    · rw [if_neg h9, if_neg h9] at h; omega
  · refine loop_rule (ι := Int) (fun i => head28_0 r x (segO a) i) (fun i => 0 ≤ i ∧ i ≤ 200) (fun i => (200 - i).toNat) 0 rfl ⟨by decide, by decide⟩ ?_
    rintro i ⟨i0, i1⟩
    refine vc28_l0 _ _ _ _ _ _ ?_
    rintro z1 h1 z2 h2
    replace h1 := h1.symm
    replace h2 := h2.symm
    subst h1 h2
    (simp only [vcT, bif_tl, bif_fr, bif_tlf, bif_frf, Bool.not_eq_true', Bool.not_eq_false', decide_eq_true_eq, decide_eq_false_iff_not, beq_iff_eq, beq_eq_false_iff_ne, bne_iff_ne, ne_eq, bne_eq_false_iff_eq, Bool.or_eq_true, Bool.and_eq_true, Bool.or_eq_false_iff, Bool.and_eq_false_imp])
    have hw : ∀ i : Int, wordR r i = if i < 0 then 0 else (wordsX (segO a) x).getD i.toNat 0 := fun i => by rw [hra]; exact wordR_lift hx i
    refine ⟨fun h => ⟨hok, by omega, fun hn => ?_, fun _ => ⟨by ((unfold InR; omega)), i + 1, rfl, ⟨by omega, by omega⟩, by omega⟩⟩, fun h => ⟨hok, fun _ => hok, ends_bool rfl ?_⟩⟩
    · exfalso
      rw [hw, if_neg (by omega)] at hn
      exact hn rfl
    · rw [hw, hw, if_pos (by decide), if_neg (by omega), List.getD_eq_getElem?_getD, List.getElem?_eq_none (by omega)]
      rfl

theorem aw_ok : okSeg [[4294967296, 7]] := ⟨by simp, fun w hw => by
  rw [List.mem_singleton.1 hw]
  refine ⟨by simp, fun x hx => ?_⟩
  simp at hx
  rcases hx with rfl | rfl <;> decide⟩

theorem aw_at : refAt [[4294967296, 7]] 0 0 = (⟨1, 0, 1, 1, 0, 0, 0⟩, 0) := by rfl

theorem c19 : Contract Try.prog cfg 19 spec19 := by
  refine make19 c20 c21 c22 c59 c25 c23 ?_
  intro _ _
  refine vc19 _ ?_
  rintro y1 h1 y2 h2
  have h1' : y1 = (⟨1, 0, 1, 1, 0, 0, 0⟩, 0) := by rw [h1]; exact aw_at
  have hx := okX_at aw_ok 0 0
  rw [aw_at] at hx
  have hk : okR y2 := by rw [h2, h1']; exact okR_lift (a := some ⟨[[4294967296, 7]], 0, 0, 0⟩) aw_ok hx
  have hy : y2 = ⟨some ⟨[[4294967296, 7]], 0, 0, 0⟩, 1, 0, 1, 1, 0, 0, 0⟩ := by rw [h2, h1']; rfl
  clear h1 h2
  (simp only [vcT, bif_tl, bif_fr, bif_tlf, bif_frf, Bool.not_eq_true', Bool.not_eq_false', decide_eq_true_eq, decide_eq_false_iff_not, beq_iff_eq, beq_eq_false_iff_ne, bne_iff_ne, ne_eq, bne_eq_false_iff_eq, Bool.or_eq_true, Bool.and_eq_true, Bool.or_eq_false_iff, Bool.and_eq_false_imp])
  refine ⟨aw_ok, aw_ok, fun _ => trivial, fun _ => trivial, fun _ => hk, fun _ => trivial, ends_bool rfl ?_⟩
  subst h1' hy
  rfl

theorem c4 : Contract Try.prog cfg 4 spec4 := by
  refine make4 c20 c26 c27 c28 c29 c24 c30 c19 ?_
  intro l s x p _ hl
  simp only [pre4] at hl
  refine vc4 _ _ _ _ _ ?_
  refine ⟨hl, hl, hl, ?_⟩
  have hA : segO (some (Arena.mk l 0 0 0)) = l := rfl
  refine loop_rule (ι := Int × XRef × Int) (fun v => head4_0 l s x p v.1 v.1 v.2.2 (liftX (some ⟨l, 0, 0, 0⟩) v.2.1).a (liftX (some ⟨l, 0, 0, 0⟩) v.2.1).kind (liftX (some ⟨l, 0, 0, 0⟩) v.2.1).segment (liftX (some ⟨l, 0, 0, 0⟩) v.2.1).at_ (liftX (some ⟨l, 0, 0, 0⟩) v.2.1).data (liftX (some ⟨l, 0, 0, 0⟩) v.2.1).kids (liftX (some ⟨l, 0, 0, 0⟩) v.2.1).count (liftX (some ⟨l, 0, 0, 0⟩) v.2.1).number v.2.1.kind v.2.1.s v.2.1.at_ v.2.1.data v.2.1.ptrs v.2.1.count v.2.1.n)
    (fun v => OkX l v.2.1 ∧ 0 ≤ v.2.2 ∧ v.2.2 ≤ 30) (fun v => (30 - v.2.2).toNat) ((refAt l s x).2, (refAt l s x).1, 0) rfl ⟨okX_at hl s x, by dsimp only; omega, by dsimp only; omega⟩ ?_
  rintro ⟨e, y, k⟩ ⟨hy, k0, k1⟩
  dsimp only at hy k0 k1
  have hok : okR (liftX (some ⟨l, 0, 0, 0⟩) y) := okR_lift (a := some ⟨l, 0, 0, 0⟩) hl hy
  refine vc4_l0 _ _ _ _ _ _ _ _ _ _ _ _ _ _ _ _ _ _ _ _ _ _ _ _ ?_
  rintro y1 h1 y2 h2 y3 h3 y4 h4 y5 h5 y6 h6 y7 h7
  dsimp only at h1 h2 h3 h4 h5 h6 h7
  replace h2 : y2 = liftX (some ⟨l, 0, 0, 0⟩) y := h2
  replace h5 : y5 = kidX l y y1 := h5
  replace h7 : y7 = kidX l y (Int.tmod y1 y3) := h7
  subst h2
  have hk := fun i => kid_lift (a := some ⟨l, 0, 0, 0⟩) (x := y) hy i
  rw [(hk _).2] at h4 h6
  (simp only [vcT, bif_tl, bif_fr, bif_tlf, bif_frf, Bool.not_eq_true', Bool.not_eq_false', decide_eq_true_eq, decide_eq_false_iff_not, beq_iff_eq, beq_eq_false_iff_ne, bne_iff_ne, ne_eq, bne_eq_false_iff_eq, Bool.or_eq_true, Bool.and_eq_true, Bool.or_eq_false_iff, Bool.and_eq_false_imp])
  have h28 : pre28 (liftX (some ⟨l, 0, 0, 0⟩) y, y, l, ()) := ⟨hl, hy, some ⟨l, 0, 0, 0⟩, rfl, rfl⟩
  refine ⟨fun hi => ⟨h28, fun h => absurd h (by simp), by omega, trivial, fun hc => ⟨by omega, hok, ⟨hl, hy⟩, by ((unfold InR; omega)), ?_⟩, fun hc => ⟨hok, ⟨hl, hy⟩, by ((unfold InR; omega)), ?_⟩⟩, fun hi => ⟨h28, trivial, ?_⟩⟩
  · rw [(hk _).1]
    subst h6 h7
    exact ⟨((kidX l y (Int.tmod y1 y3)).2, (kidX l y (Int.tmod y1 y3)).1, k + 1), rfl, ⟨okX_kid hl hy _, by dsimp only; omega, by dsimp only; omega⟩, by dsimp only; omega⟩
  · rw [(hk _).1]
    subst h4 h5
    exact ⟨((kidX l y y1).2, (kidX l y y1).1, k + 1), rfl, ⟨okX_kid hl hy _, by dsimp only; omega, by dsimp only; omega⟩, by dsimp only; omega⟩
  · refine ends_bool rfl ?_
    simp

end Go.AM.Ythokdjgpdonhgaa

namespace Go.AM.Ythokdjgpdonhgaa
open Go.AM Go.Proofs Go.Proofs.Ythokdjgpdonhgaa Go.ChangeShapes Go.WideShapes Go.RowKit

theorem own : ownKnob Try.prog.godebug = none := by kernel_rfl
theorem laidOut : laidOutB Try.prog = true := by kernel_rfl
theorem treeTypes : TreeTypes cfg := ⟨rfl, rfl, ⟨_, rfl⟩, ⟨_, rfl⟩, ⟨_, rfl, rfl⟩, ⟨_, _, rfl, rfl⟩, ⟨_, _, rfl, rfl, rfl⟩, ⟨_, _, rfl, rfl, rfl⟩⟩
theorem argInt {H : Type} {henc : TypeId × Value → H} : ArgR henc Try.prog cfg (aInt .i64) 3 (fun z => IntKind.min .i64 ≤ z ∧ z ≤ IntKind.max .i64) := argR_int cfgOk (n0 := 0) rfl

def inW (e : List Int) : Prop := e.length ≤ 17592186044416 ∧ ∀ x ∈ e, 0 ≤ x ∧ x < 18446744073709551616

theorem rd_words {H : Type} {henc : TypeId × Value → H} {w : World} {n : Nat} {cs : List Value} (h : Rdd henc Try.prog w n (cfg.elT .words) cs) : ∃ e : List Int, RelS cfg w.cell? cs (cfg.enc .words e) ∧ inW e := by
  obtain ⟨l, h1, h2, h3⟩ := rd_sl cfgOk (S := .u64) (good := fun e : Int => 0 ≤ e ∧ e < 18446744073709551616) rfl (fun m _ cs h => rd_u64 cfgOk treeTypes h) h
  have hb : l.length * 8 ≤ reachBytes := h2
  exact ⟨l, h1, reach_div hb (by decide), h3⟩

theorem argSWords {H : Type} {henc : TypeId × Value → H} : ArgR henc Try.prog cfg (aSl .words) 29 (fun l => l.length * cfg.bytes .words ≤ reachBytes ∧ ∀ e ∈ l, inW e) :=
  argR_sl cfgOk rfl (fun _ n cs h => rd_words h)

theorem argSInt {H : Type} {henc : TypeId × Value → H} : ArgR henc Try.prog cfg (aSl .int) 39 (fun l => l.length * cfg.bytes .int ≤ reachBytes ∧ ∀ e ∈ l, True) :=
  argR_sl cfgOk rfl (fun _ n cs h => by
    obtain ⟨z, h1, _⟩ := rd_int cfgOk (k := .i64) (n0 := 0) rfl h
    exact ⟨z, h1, trivial⟩)

theorem inSegs {l : List (List Int)} (h : l.length * cfg.bytes .words ≤ reachBytes ∧ ∀ e ∈ l, inW e) : okSeg l := by
  have hb : l.length * 24 ≤ reachBytes := h.1
  have h2 : reachBytes < 2 ^ 47 := reachBytes_lt
  exact ⟨by omega, h.2⟩

end Go.AM.Ythokdjgpdonhgaa
