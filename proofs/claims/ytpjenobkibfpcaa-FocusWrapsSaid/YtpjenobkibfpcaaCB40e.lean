import Derived.Test.YtpjenobkibfpcaaCB40c
set_option linter.unusedSimpArgs false
set_option linter.unusedVariables false
namespace Go.AM.Ytpjenobkibfpcaa
open Go.AM Go.Proofs
theorem idxAt_get (at_ : Int) : ∀ (l : List Kid) (i : Int), (idxAt l at_ i = -1 ∧ idxK l at_ = Edit.nil) ∨ (i ≤ idxAt l at_ i ∧ idxAt l at_ i < i + l.length ∧ (l.getD (idxAt l at_ i - i).toNat ⟨0, Edit.nil⟩).e = idxK l at_)
  | [], i => .inl ⟨rfl, rfl⟩
  | k :: r, i => by
    by_cases h : k.at_ = at_
    · refine .inr ?_
      have e : idxK (k :: r) at_ = k.e := by unfold idxK; rw [List.find?_cons_of_pos (by simpa using h)]; rfl
      rw [idxAt, if_pos h, e, show (i - i).toNat = 0 by omega]
      exact ⟨by omega, by simp only [List.length_cons]; omega, rfl⟩
    · have e : idxK (k :: r) at_ = idxK r at_ := by unfold idxK; rw [List.find?_cons_of_neg (by simpa using h)]
      rw [idxAt, if_neg h, e]
      rcases idxAt_get at_ r (i + 1) with h1 | ⟨h1, h2, h3⟩
      · exact .inl h1
      · refine .inr ⟨by omega, by simp only [List.length_cons]; omega, ?_⟩
        rw [show (idxAt r at_ (i + 1) - i).toNat = (idxAt r at_ (i + 1) - (i + 1)).toNat + 1 by omega, List.getD_cons_succ]
        exact h3
theorem findO_mem : ∀ (l : List Op) (a f t : Int), (findO l a f t).2.2 = true → (findO l a f t).1 ∈ l
  | [], a, f, t, h => by rw [findO] at h; cases h
  | o :: r, a, f, t, h => by
    rw [findO] at h ⊢
    split at h
    · rename_i h2; rw [if_pos h2]; exact List.mem_cons_of_mem _ (findO_mem r _ _ _ h)
    · rename_i h2; rw [if_neg h2]
      split at h
      · rename_i h3; rw [if_pos h3]; exact List.mem_cons_self
      · rename_i h3; rw [if_neg h3]; exact List.mem_cons_of_mem _ (findO_mem r _ _ _ h)
theorem rightE_nil64 : rightE Edit.nil 64 = true := sameE_right (by rfl) 64 (by decide)
theorem idxK_ok {e : Edit} {d : Int} (h : rightE e d = true) (hg : rngE e) (at_ : Int) : massE (idxK e.kids at_) ≤ massE e ∧ rngE (idxK e.kids at_) ∧ ∃ d, rightE (idxK e.kids at_) d = true := by
  unfold idxK
  cases hf : e.kids.find? (fun k => decide (k.at_ = at_)) with
  | none => exact ⟨by have := massE_pos2 e; simp only [Option.map_none, Option.getD_none, massE_nil]; omega, rngE_nil, 64, rightE_nil64⟩
  | some k =>
    have hm := List.mem_of_find?_eq_some hf
    exact ⟨Nat.le_of_lt (massE_kid hm), (rngKs_mem (rngE_at hg).2.2.2.2.2.1 hm).2, d - 1, ((rightE_in h).1 k hm).1⟩
where
  massE_pos2 (e : Edit) : 3 ≤ massE e := by
    obtain ⟨k, o, n, w, ks, l, os⟩ := e
    have := mass_one o
    have := mass_one n
    simp only [massE]; omega
theorem op_ok {e : Edit} {d : Int} (h : rightE e d = true) (hg : rngE e) {o : Op} (hm : o ∈ e.ops) : massE o.e ≤ massE e ∧ rngE o.e ∧ ∃ d, rightE o.e d = true := by
  refine ⟨?_, ?_, ?_⟩
  · have := massE_op hm
    omega
  · have := rngOs_mem (rngE_at hg).2.2.2.2.2.2 hm
    obtain ⟨k, n, l, x⟩ := o
    exact this.2.2.2
  · have h2 := (rightE_in h).2 o hm
    by_cases h3 : o.kind = 3
    · exact ⟨d - 1, by
        rw [rightOp_at, if_neg (by omega)] at h2
        split at h2
        · cases h2
        · rw [if_neg (by omega)] at h2
          simp only [Bool.and_eq_true] at h2
          exact h2.1.2⟩
    · refine ⟨64, sameE_right ?_ 64 (by decide)⟩
      rw [rightOp_at] at h2
      split at h2
      · simp only [Bool.and_eq_true] at h2; exact h2.2
      · split at h2
        · cases h2
        · split at h2
          · simp only [Bool.and_eq_true] at h2; exact h2.2
          · omega
theorem narN_no {e : Edit} {l : List PStep} (h : narG l e [] = (Edit.nil, [], false)) : narN e l = (Edit.nil, [], false) := by rw [narN, h, if_neg (by decide)]
theorem c27 : Contract Try.prog cfg 27 spec27 := by
  refine make27 c72 c74 c57_76.1 ?_
  intro e l _ hp
  simp only [pre27] at hp
  refine vc27 _ _ _ ?_
  refine loop_rule (ι := Int × Edit × List PStep) (fun s => head27_0 e l s.1 s.2.1.kind s.2.1.old.kind s.2.1.new.kind s.2.1.list s.2.1.old.words s.2.1.old.kids s.2.1.new.words s.2.1.new.kids s.2.1.words s.2.1.kids s.2.1.ops s.2.2) (fun s => (0 ≤ s.1 ∧ s.1 ≤ l.length) ∧ s.2.2.length = s.1 ∧ (massE s.2.1 ≤ 1000000000 ∧ rngE s.2.1 ∧ ∃ d, rightE s.2.1 d = true) ∧ narG (l.drop s.1.toNat) s.2.1 s.2.2 = narG l e []) (fun s => ((l.length : Int) - s.1).toNat) (0, e, []) rfl ⟨⟨by dsimp only; omega, by dsimp only; omega⟩, rfl, hp.1, rfl⟩ ?_
  rintro ⟨i, f, m⟩ ⟨⟨h1, h2⟩, h3, h4, h5⟩
  dsimp only at h1 h2 h3 h4 h5
  refine vc27_l0 _ _ _ _ _ _ _ _ _ _ _ _ _ _ _ _ _ ?_
  rintro y1 hy1 y2 hy2 y3 rfl y4 hy4
  dsimp only at hy1 hy2 hy4
  have e2 : y2 = f := by rw [hy2]; obtain ⟨k, ⟨_, _, _⟩, ⟨_, _, _⟩, w, ks, l, os⟩ := f; rfl
  subst e2
  obtain ⟨g1, g2, d, g3⟩ := h4
  (simp only [vcT, vcS])
  try simp only [vcU]
  refine ⟨fun hi => ⟨⟨h1, hi⟩, ?_⟩, fun hi => ?_⟩
  · rw [dropI h1 hi ⟨0, 0⟩, ← hy1, narG] at h5
    refine ⟨fun hb => ?_, fun hb => ⟨fun hk => ⟨?_, fun hx => ?_, fun hx => ?_⟩, fun hk => ⟨fun hk3 => ⟨?_, fun hx => ?_, fun hx => ?_⟩, fun hk3 => ?_⟩⟩⟩
    · rw [if_pos (by omega)] at h5
      simp only [res27, narN_no h5.symm]
      (repeat' (first | exact trivial | exact rfl | apply And.intro))
    · simp only [pre72]
      have := massKs_len y2.kids
      have := massE_kidsle y2
      omega
    · rw [if_neg (by omega), if_pos hk] at h5
      rcases idxAt_get y3.at_ y2.kids 0 with h | h
      · rw [h.2] at h5
        exact ⟨by simp only [List.length_cons, List.length_nil]; omega, by unfold InR; omega, (i + 1, Edit.nil, m ++ [y3]), rfl, ⟨⟨by dsimp only; omega, by dsimp only; omega⟩, by simp; omega, ⟨by dsimp only; rw [massE_nil]; omega, rngE_nil, 64, rightE_nil64⟩, h5⟩, by dsimp only; omega⟩
      · omega
    · rw [if_neg (by omega), if_pos hk] at h5
      rcases idxAt_get y3.at_ y2.kids 0 with h | h
      · omega
      · have e4 : y4.e = idxK y2.kids y3.at_ := by rw [hy4, ← h.2.2, Int.sub_zero]
        have ok := idxK_ok g3 g2 y3.at_
        rw [← e4] at h5 ok
        exact ⟨⟨h.1, by omega⟩, by simp only [List.length_cons, List.length_nil]; omega, by unfold InR; omega, (i + 1, y4.e, m ++ [y3]), rfl, ⟨⟨by dsimp only; omega, by dsimp only; omega⟩, by simp; omega, ⟨by dsimp only; omega, ok.2⟩, h5⟩, by dsimp only; omega⟩
    · exact ⟨⟨rightE_ops g3, by have := massE_opsle y2; dsimp only; omega⟩, by dsimp only; omega⟩
    · rw [if_neg (by omega), if_neg hk, if_pos hk3, if_neg (by rw [hx]; decide)] at h5
      simp only [res27, narN_no h5.symm]
      (repeat' (first | exact trivial | exact rfl | apply And.intro))
    · rw [if_neg (by omega), if_neg hk, if_pos hk3, if_pos hx] at h5
      have ok := op_ok g3 g2 (findO_mem _ _ _ _ hx)
      exact ⟨by simp only [List.length_cons, List.length_nil]; omega, by unfold InR; omega, (i + 1, (findO y2.ops y3.at_ 0 0).1.e, m ++ [⟨y3.kind, (findO y2.ops y3.at_ 0 0).2.1⟩]), rfl, ⟨⟨by dsimp only; omega, by dsimp only; omega⟩, by simp; omega, ⟨by dsimp only; omega, ok.2⟩, h5⟩, by dsimp only; omega⟩
    · rw [if_neg (by omega), if_neg hk, if_neg hk3] at h5
      exact ⟨by simp only [List.length_cons, List.length_nil]; omega, by unfold InR; omega, (i + 1, y2, m ++ [y3]), rfl, ⟨⟨by dsimp only; omega, by dsimp only; omega⟩, by simp; omega, ⟨g1, g2, d, g3⟩, h5⟩, by dsimp only; omega⟩
  · rw [List.drop_of_length_le (by omega), narG] at h5
    refine ⟨⟨by dsimp only; omega, d, g3⟩, ?_⟩
    have en : narN e l = (nrmE y2, m, true) := by rw [narN, ← h5, if_pos rfl]
    simp only [res27, en]
    (repeat' (first | exact trivial | exact rfl | apply And.intro))
where
  massE_kidsle (e : Edit) : massKs e.kids ≤ massE e := by obtain ⟨k, o, n, w, ks, l, os⟩ := e; simp only [massE, Edit.kids_mk]; omega
  massE_opsle (e : Edit) : massOs e.ops ≤ massE e := by obtain ⟨k, o, n, w, ks, l, os⟩ := e; simp only [massE, Edit.ops_mk]; omega
end Go.AM.Ytpjenobkibfpcaa

namespace Go.AM.Ytpjenobkibfpcaa
open Go.AM Go.Proofs
def args16 : ArgL (Unit) := .nil
def pre16 (a : Unit) : Prop := True
noncomputable def res16 (a : Unit) : V U := .c (.bool true)
noncomputable def spec16 : Fs U := fs args16 (fun a => [pre16 a]) res16
def args14 : ArgL (Tree × Unit) := (.cons (aEl .tree) .nil)
def pre14 (a : Tree × Unit) : Prop := small a.1 ∧ rng a.1
noncomputable def res14 (a : Tree × Unit) : V U := .c (.bool (goodT a.1))
noncomputable def spec14 : Fs U := fs args14 (fun a => [pre14 a]) res14
def args3 : ArgL (Tree × List PStep × Edit × Unit) := (.cons (aEl .tree) (.cons (aSl .step) (.cons (aEl .edit) .nil)))
def pre3 (a : Tree × List PStep × Edit × Unit) : Prop := (small a.1 ∧ rng a.1) ∧ (∀ s ∈ a.2.1, isI (PStep.kind s) ∧ isI (PStep.at_ s)) ∧ (smallE a.2.2.1 ∧ rngE a.2.2.1)
noncomputable def res3 (a : Tree × List PStep × Edit × Unit) : V U := .c (.bool true)
noncomputable def spec3 : Fs U := fs args3 (fun a => [pre3 a]) res3
noncomputable def know16 : List (FuncId × Fs U) := [(17, spec17), (27, spec27)]
def lv16 : Lives U := fun i => match i with
  | 0 => ([], [])
  | 1 => ([(1, [])], [((.loc 1), [])])
  | 2 => ([(2, []), (3, [])], [((.loc 2), [])])
  | 3 => ([(2, []), (3, []), (4, []), (5, []), (6, [])], [((.loc 2), []), ((.loc 4), [])])
  | 4 => ([(0, [])], [])
  | _ => ([], [])
noncomputable abbrev A16 (p : List Nat) := awp cfg (know know16) (drawOk cfg (know know16)) Try.f16.ntmps lv16 (cd Try.f16 p)
theorem vc16 (Q : AExit → LSt U → Prop) (h : ∀ y_1, y_1 = (Tree.mk 8 ([]) ([(Tree.mk 0 ([]) ([])), (Tree.mk 1 ([1]) ([])), (Tree.mk 0 ([]) ([]))])) → ∀ y_2, y_2 = (Edit.mk 2 (Tree.mk 0 ([]) ([])) (Tree.mk 0 ([]) ([])) ([(WEdit.mk 0 1 1 2)]) ([]) 0 ([])) → ∀ y_3, y_3 = (((wrapN opsA y_2 ([(PStep.mk 0 1)]) y_1).1)) → ∀ y_4, y_4 = (List.getD (Edit.ops ((wrapN opsA y_2 ([(PStep.mk 0 1)]) y_1).1)) (Int.toNat 1) Op.nil) → (((pre17 (y_1, ([(PStep.mk 0 1)]), y_2, ())) ∧ ((pre27 (y_3, ([(PStep.mk 0 1)]), ())) ∧ (((Tr (((wrapN opsA y_2 ([(PStep.mk 0 1)]) y_1).2) = true))) ∧ (Tr ((bif ((wrapN opsA y_2 ([(PStep.mk 0 1)]) y_1).2) then ((narN y_3 ([(PStep.mk 0 1)])).2.2) else false) = true)) ∧ (Tr ((bif ((wrapN opsA y_2 ([(PStep.mk 0 1)]) y_1).2) then ((narN y_3 ([(PStep.mk 0 1)])).2.2) else false) = true)) ∧ ((Tr ((bif ((wrapN opsA y_2 ([(PStep.mk 0 1)]) y_1).2) then ((narN y_3 ([(PStep.mk 0 1)])).2.2) else false) = true))) ∧ (Tr ((bif (bif ((wrapN opsA y_2 ([(PStep.mk 0 1)]) y_1).2) then ((narN y_3 ([(PStep.mk 0 1)])).2.2) else false) then (((Edit.kind ((wrapN opsA y_2 ([(PStep.mk 0 1)]) y_1).1)) : Int) == 3) else false) = true)) ∧ (Tr ((bif (bif ((wrapN opsA y_2 ([(PStep.mk 0 1)]) y_1).2) then ((narN y_3 ([(PStep.mk 0 1)])).2.2) else false) then (((Edit.kind ((wrapN opsA y_2 ([(PStep.mk 0 1)]) y_1).1)) : Int) == 3) else false) = true)) ∧ (Tr ((bif (bif ((wrapN opsA y_2 ([(PStep.mk 0 1)]) y_1).2) then ((narN y_3 ([(PStep.mk 0 1)])).2.2) else false) then (((Edit.kind ((wrapN opsA y_2 ([(PStep.mk 0 1)]) y_1).1)) : Int) == 3) else false) = true)) ∧ ((Tr ((bif (bif ((wrapN opsA y_2 ([(PStep.mk 0 1)]) y_1).2) then ((narN y_3 ([(PStep.mk 0 1)])).2.2) else false) then (((Edit.kind ((wrapN opsA y_2 ([(PStep.mk 0 1)]) y_1).1)) : Int) == 3) else false) = true))) ∧ (Tr ((bif (bif (bif ((wrapN opsA y_2 ([(PStep.mk 0 1)]) y_1).2) then ((narN y_3 ([(PStep.mk 0 1)])).2.2) else false) then (((Edit.kind ((wrapN opsA y_2 ([(PStep.mk 0 1)]) y_1).1)) : Int) == 3) else false) then ((((Edit.ops ((wrapN opsA y_2 ([(PStep.mk 0 1)]) y_1).1)).length : Int) : Int) == 3) else false) = true)) ∧ (Tr ((bif (bif (bif ((wrapN opsA y_2 ([(PStep.mk 0 1)]) y_1).2) then ((narN y_3 ([(PStep.mk 0 1)])).2.2) else false) then (((Edit.kind ((wrapN opsA y_2 ([(PStep.mk 0 1)]) y_1).1)) : Int) == 3) else false) then ((((Edit.ops ((wrapN opsA y_2 ([(PStep.mk 0 1)]) y_1).1)).length : Int) : Int) == 3) else false) = true)) ∧ ((bif (bif (bif ((wrapN opsA y_2 ([(PStep.mk 0 1)]) y_1).2) then ((narN y_3 ([(PStep.mk 0 1)])).2.2) else false) then (((Edit.kind ((wrapN opsA y_2 ([(PStep.mk 0 1)]) y_1).1)) : Int) == 3) else false) then ((((Edit.ops ((wrapN opsA y_2 ([(PStep.mk 0 1)]) y_1).1)).length : Int) : Int) == 3) else false) = true → (0 : Int) ≤ 1 ∧ 1 < ((Edit.ops ((wrapN opsA y_2 ([(PStep.mk 0 1)]) y_1).1)).length : Int)) ∧ (Tr ((bif (bif (bif ((wrapN opsA y_2 ([(PStep.mk 0 1)]) y_1).2) then ((narN y_3 ([(PStep.mk 0 1)])).2.2) else false) then (((Edit.kind ((wrapN opsA y_2 ([(PStep.mk 0 1)]) y_1).1)) : Int) == 3) else false) then ((((Edit.ops ((wrapN opsA y_2 ([(PStep.mk 0 1)]) y_1).1)).length : Int) : Int) == 3) else false) = true)) ∧ (Tr ((bif (bif (bif ((wrapN opsA y_2 ([(PStep.mk 0 1)]) y_1).2) then ((narN y_3 ([(PStep.mk 0 1)])).2.2) else false) then (((Edit.kind ((wrapN opsA y_2 ([(PStep.mk 0 1)]) y_1).1)) : Int) == 3) else false) then ((((Edit.ops ((wrapN opsA y_2 ([(PStep.mk 0 1)]) y_1).1)).length : Int) : Int) == 3) else false) = true)) ∧ (Tr ((bif (bif (bif ((wrapN opsA y_2 ([(PStep.mk 0 1)]) y_1).2) then ((narN y_3 ([(PStep.mk 0 1)])).2.2) else false) then (((Edit.kind ((wrapN opsA y_2 ([(PStep.mk 0 1)]) y_1).1)) : Int) == 3) else false) then ((((Edit.ops ((wrapN opsA y_2 ([(PStep.mk 0 1)]) y_1).1)).length : Int) : Int) == 3) else false) = true)) ∧ ((Tr ((bif (bif (bif ((wrapN opsA y_2 ([(PStep.mk 0 1)]) y_1).2) then ((narN y_3 ([(PStep.mk 0 1)])).2.2) else false) then (((Edit.kind ((wrapN opsA y_2 ([(PStep.mk 0 1)]) y_1).1)) : Int) == 3) else false) then ((((Edit.ops ((wrapN opsA y_2 ([(PStep.mk 0 1)]) y_1).1)).length : Int) : Int) == 3) else false) = true))) ∧ (Tr ((bif (bif (bif (bif ((wrapN opsA y_2 ([(PStep.mk 0 1)]) y_1).2) then ((narN y_3 ([(PStep.mk 0 1)])).2.2) else false) then (((Edit.kind ((wrapN opsA y_2 ([(PStep.mk 0 1)]) y_1).1)) : Int) == 3) else false) then ((((Edit.ops ((wrapN opsA y_2 ([(PStep.mk 0 1)]) y_1).1)).length : Int) : Int) == 3) else false) then (((OpOf.kind y_4) : Int) == 3) else false) = true)) ∧ (Tr ((bif (bif (bif (bif ((wrapN opsA y_2 ([(PStep.mk 0 1)]) y_1).2) then ((narN y_3 ([(PStep.mk 0 1)])).2.2) else false) then (((Edit.kind ((wrapN opsA y_2 ([(PStep.mk 0 1)]) y_1).1)) : Int) == 3) else false) then ((((Edit.ops ((wrapN opsA y_2 ([(PStep.mk 0 1)]) y_1).1)).length : Int) : Int) == 3) else false) then (((OpOf.kind y_4) : Int) == 3) else false) = true)) ∧ ((Tr ((bif (bif (bif (bif ((wrapN opsA y_2 ([(PStep.mk 0 1)]) y_1).2) then ((narN y_3 ([(PStep.mk 0 1)])).2.2) else false) then (((Edit.kind ((wrapN opsA y_2 ([(PStep.mk 0 1)]) y_1).1)) : Int) == 3) else false) then ((((Edit.ops ((wrapN opsA y_2 ([(PStep.mk 0 1)]) y_1).1)).length : Int) : Int) == 3) else false) then (((OpOf.kind y_4) : Int) == 3) else false) = true))) ∧ (Tr ((bif (bif (bif (bif (bif ((wrapN opsA y_2 ([(PStep.mk 0 1)]) y_1).2) then ((narN y_3 ([(PStep.mk 0 1)])).2.2) else false) then (((Edit.kind ((wrapN opsA y_2 ([(PStep.mk 0 1)]) y_1).1)) : Int) == 3) else false) then ((((Edit.ops ((wrapN opsA y_2 ([(PStep.mk 0 1)]) y_1).1)).length : Int) : Int) == 3) else false) then (((OpOf.kind y_4) : Int) == 3) else false) then (((Edit.kind ((narN y_3 ([(PStep.mk 0 1)])).1)) : Int) == 2) else false) = true)) ∧ (Tr ((bif (bif (bif (bif (bif ((wrapN opsA y_2 ([(PStep.mk 0 1)]) y_1).2) then ((narN y_3 ([(PStep.mk 0 1)])).2.2) else false) then (((Edit.kind ((wrapN opsA y_2 ([(PStep.mk 0 1)]) y_1).1)) : Int) == 3) else false) then ((((Edit.ops ((wrapN opsA y_2 ([(PStep.mk 0 1)]) y_1).1)).length : Int) : Int) == 3) else false) then (((OpOf.kind y_4) : Int) == 3) else false) then (((Edit.kind ((narN y_3 ([(PStep.mk 0 1)])).1)) : Int) == 2) else false) = true)) ∧ ((Tr ((bif (bif (bif (bif (bif ((wrapN opsA y_2 ([(PStep.mk 0 1)]) y_1).2) then ((narN y_3 ([(PStep.mk 0 1)])).2.2) else false) then (((Edit.kind ((wrapN opsA y_2 ([(PStep.mk 0 1)]) y_1).1)) : Int) == 3) else false) then ((((Edit.ops ((wrapN opsA y_2 ([(PStep.mk 0 1)]) y_1).1)).length : Int) : Int) == 3) else false) then (((OpOf.kind y_4) : Int) == 3) else false) then (((Edit.kind ((narN y_3 ([(PStep.mk 0 1)])).1)) : Int) == 2) else false) = true))) ∧ (Tr ((bif (bif (bif (bif (bif (bif ((wrapN opsA y_2 ([(PStep.mk 0 1)]) y_1).2) then ((narN y_3 ([(PStep.mk 0 1)])).2.2) else false) then (((Edit.kind ((wrapN opsA y_2 ([(PStep.mk 0 1)]) y_1).1)) : Int) == 3) else false) then ((((Edit.ops ((wrapN opsA y_2 ([(PStep.mk 0 1)]) y_1).1)).length : Int) : Int) == 3) else false) then (((OpOf.kind y_4) : Int) == 3) else false) then (((Edit.kind ((narN y_3 ([(PStep.mk 0 1)])).1)) : Int) == 2) else false) then (((((narN y_3 ([(PStep.mk 0 1)])).2.1).length : Int) : Int) == 1) else false) = true)) ∧ ((bif (bif (bif (bif (bif (bif ((wrapN opsA y_2 ([(PStep.mk 0 1)]) y_1).2) then ((narN y_3 ([(PStep.mk 0 1)])).2.2) else false) then (((Edit.kind ((wrapN opsA y_2 ([(PStep.mk 0 1)]) y_1).1)) : Int) == 3) else false) then ((((Edit.ops ((wrapN opsA y_2 ([(PStep.mk 0 1)]) y_1).1)).length : Int) : Int) == 3) else false) then (((OpOf.kind y_4) : Int) == 3) else false) then (((Edit.kind ((narN y_3 ([(PStep.mk 0 1)])).1)) : Int) == 2) else false) then (((((narN y_3 ([(PStep.mk 0 1)])).2.1).length : Int) : Int) == 1) else false) = true → (0 : Int) ≤ 0 ∧ 0 < (((narN y_3 ([(PStep.mk 0 1)])).2.1).length : Int)) ∧ (Tr ((bif (bif (bif (bif (bif (bif ((wrapN opsA y_2 ([(PStep.mk 0 1)]) y_1).2) then ((narN y_3 ([(PStep.mk 0 1)])).2.2) else false) then (((Edit.kind ((wrapN opsA y_2 ([(PStep.mk 0 1)]) y_1).1)) : Int) == 3) else false) then ((((Edit.ops ((wrapN opsA y_2 ([(PStep.mk 0 1)]) y_1).1)).length : Int) : Int) == 3) else false) then (((OpOf.kind y_4) : Int) == 3) else false) then (((Edit.kind ((narN y_3 ([(PStep.mk 0 1)])).1)) : Int) == 2) else false) then (((((narN y_3 ([(PStep.mk 0 1)])).2.1).length : Int) : Int) == 1) else false) = true)) ∧ (Tr ((bif (bif (bif (bif (bif (bif ((wrapN opsA y_2 ([(PStep.mk 0 1)]) y_1).2) then ((narN y_3 ([(PStep.mk 0 1)])).2.2) else false) then (((Edit.kind ((wrapN opsA y_2 ([(PStep.mk 0 1)]) y_1).1)) : Int) == 3) else false) then ((((Edit.ops ((wrapN opsA y_2 ([(PStep.mk 0 1)]) y_1).1)).length : Int) : Int) == 3) else false) then (((OpOf.kind y_4) : Int) == 3) else false) then (((Edit.kind ((narN y_3 ([(PStep.mk 0 1)])).1)) : Int) == 2) else false) then (((((narN y_3 ([(PStep.mk 0 1)])).2.1).length : Int) : Int) == 1) else false) = true)) ∧ (Tr ((bif (bif (bif (bif (bif (bif ((wrapN opsA y_2 ([(PStep.mk 0 1)]) y_1).2) then ((narN y_3 ([(PStep.mk 0 1)])).2.2) else false) then (((Edit.kind ((wrapN opsA y_2 ([(PStep.mk 0 1)]) y_1).1)) : Int) == 3) else false) then ((((Edit.ops ((wrapN opsA y_2 ([(PStep.mk 0 1)]) y_1).1)).length : Int) : Int) == 3) else false) then (((OpOf.kind y_4) : Int) == 3) else false) then (((Edit.kind ((narN y_3 ([(PStep.mk 0 1)])).1)) : Int) == 2) else false) then (((((narN y_3 ([(PStep.mk 0 1)])).2.1).length : Int) : Int) == 1) else false) = true)) ∧ ((Tr ((bif (bif (bif (bif (bif (bif ((wrapN opsA y_2 ([(PStep.mk 0 1)]) y_1).2) then ((narN y_3 ([(PStep.mk 0 1)])).2.2) else false) then (((Edit.kind ((wrapN opsA y_2 ([(PStep.mk 0 1)]) y_1).1)) : Int) == 3) else false) then ((((Edit.ops ((wrapN opsA y_2 ([(PStep.mk 0 1)]) y_1).1)).length : Int) : Int) == 3) else false) then (((OpOf.kind y_4) : Int) == 3) else false) then (((Edit.kind ((narN y_3 ([(PStep.mk 0 1)])).1)) : Int) == 2) else false) then (((((narN y_3 ([(PStep.mk 0 1)])).2.1).length : Int) : Int) == 1) else false) = true))) ∧ (Q .ret (⟨[(0, .c (.bool (bif (bif (bif (bif (bif (bif (bif ((wrapN opsA y_2 ([(PStep.mk 0 1)]) y_1).2) then ((narN y_3 ([(PStep.mk 0 1)])).2.2) else false) then (((Edit.kind ((wrapN opsA y_2 ([(PStep.mk 0 1)]) y_1).1)) : Int) == 3) else false) then ((((Edit.ops ((wrapN opsA y_2 ([(PStep.mk 0 1)]) y_1).1)).length : Int) : Int) == 3) else false) then (((OpOf.kind y_4) : Int) == 3) else false) then (((Edit.kind ((narN y_3 ([(PStep.mk 0 1)])).1)) : Int) == 2) else false) then (((((narN y_3 ([(PStep.mk 0 1)])).2.1).length : Int) : Int) == 1) else false) then (((PStep.at_ (List.getD ((narN y_3 ([(PStep.mk 0 1)])).2.1) (Int.toNat 0) (PStep.mk 0 0))) : Int) == 1) else false)))], [], []⟩ : LSt U))))))) :
    A16 [] (⟨[], [], []⟩ : LSt U) Q :=
  Eq.mpr (by kernel_rfl) (h _ rfl _ rfl _ (reEdit_eq _) _ rfl)
def Body16  : Prop := awp cfg (know (know16)) (drawOk cfg (know (know16))) Try.f16.ntmps lv16 (cd Try.f16 []) (entry (args16.can (())) []) (EndsQ cfg Try.f16.ntmps Try.f16.results.toList (res16 (())) [])
theorem make16 (c17 : Contract Try.prog cfg 17 spec17) (c27 : Contract Try.prog cfg 27 spec27) (hb : ∀ (_ : Unit), pre16 (()) → Body16 ) : Contract Try.prog cfg 16 spec16 :=
  contract_flat (l := [(17, spec17), (27, spec27)]) cfgOk rfl (⟨c17, c27, trivial⟩) lv16 Try.func16 rfl rfl 0 (fun _ => rfl) (by decide) (fun _ => hb  ())
noncomputable def know14 : List (FuncId × Fs U) := [(36, spec36), (37, spec37)]
def lv14 : Lives U := fun i => match i with
  | 0 => ([(1, [])], [((.loc 1), [])])
  | 1 => ([(2, [])], [])
  | _ => ([], [])
noncomputable abbrev A14 (p : List Nat) := awp cfg (know know14) (drawOk cfg (know know14)) Try.f14.ntmps lv14 (cd Try.f14 p)
theorem vc14 (t : Tree) (Q : AExit → LSt U → Prop) (h : ((pre36 ((Tree.mk (Tree.kind t) (Tree.words t) (Tree.kids t)), ())) ∧ (Tr ((decide (0 ≤ shallow (Tree.mk (Tree.kind t) (Tree.words t) (Tree.kids t)) 80 3000)) = true)) ∧ ((decide (0 ≤ shallow (Tree.mk (Tree.kind t) (Tree.words t) (Tree.kids t)) 80 3000)) = true → pre37 ((Tree.mk (Tree.kind t) (Tree.words t) (Tree.kids t)), 64, ())) ∧ ((Tr ((decide (0 ≤ shallow (Tree.mk (Tree.kind t) (Tree.words t) (Tree.kids t)) 80 3000)) = true))) ∧ (Tr ((bif (decide (0 ≤ shallow (Tree.mk (Tree.kind t) (Tree.words t) (Tree.kids t)) 80 3000)) then (rightT (Tree.mk (Tree.kind t) (Tree.words t) (Tree.kids t)) 64) else false) = true)) ∧ (Tr ((bif (decide (0 ≤ shallow (Tree.mk (Tree.kind t) (Tree.words t) (Tree.kids t)) 80 3000)) then (rightT (Tree.mk (Tree.kind t) (Tree.words t) (Tree.kids t)) 64) else false) = true)) ∧ ((Tr ((bif (decide (0 ≤ shallow (Tree.mk (Tree.kind t) (Tree.words t) (Tree.kids t)) 80 3000)) then (rightT (Tree.mk (Tree.kind t) (Tree.words t) (Tree.kids t)) 64) else false) = true))) ∧ (Q .ret (⟨[(2, .c (.bool (bif (bif (decide (0 ≤ shallow (Tree.mk (Tree.kind t) (Tree.words t) (Tree.kids t)) 80 3000)) then (rightT (Tree.mk (Tree.kind t) (Tree.words t) (Tree.kids t)) 64) else false) then (((Tree.kind t) : Int) != 10) else false)))], [], []⟩ : LSt U)))) :
    A14 [] (⟨[(0, .agg [.int .i64 (Tree.kind t), .slice (U := U) .u64 (Tree.words t) .unk, .slice (U := U) .tree (Tree.kids t) .unk])], [], []⟩ : LSt U) Q :=
  Eq.mpr (by kernel_rfl) h
def Body14 (t : Tree)  : Prop := awp cfg (know (know14)) (drawOk cfg (know (know14))) Try.f14.ntmps lv14 (cd Try.f14 []) (entry (args14.can (t, ())) []) (EndsQ cfg Try.f14.ntmps Try.f14.results.toList (res14 (t, ())) [])
theorem make14 (c36 : Contract Try.prog cfg 36 spec36) (c37 : Contract Try.prog cfg 37 spec37) (hb : ∀ (t : Tree) (_ : Unit), pre14 (t, ()) → Body14 t) : Contract Try.prog cfg 14 spec14 :=
  contract_flat (l := [(36, spec36), (37, spec37)]) cfgOk rfl (⟨c36, c37, trivial⟩) lv14 Try.func14 rfl rfl 1 (fun _ => rfl) (by decide) (fun ⟨t, _⟩ => hb t ())
noncomputable def know3 : List (FuncId × Fs U) := [(14, spec14), (15, spec15), (16, spec16), (17, spec17), (18, spec18), (19, spec19)]
def lv3 : Lives U := fun i => match i with
  | 0 => ([(1, []), (3, []), (5, [])], [((.loc 3), []), ((.loc 5), [])])
  | 1 => ([(1, []), (3, []), (5, []), (23, [])], [((.loc 3), []), ((.loc 5), [])])
  | 2 => ([(6, [])], [])
  | 3 => ([(1, []), (3, []), (5, []), (7, []), (8, [])], [((.loc 3), []), ((.loc 5), []), ((.loc 7), [])])
  | 4 => ([(7, []), (8, []), (9, []), (10, [])], [((.loc 7), []), ((.loc 9), [])])
  | 5 => ([(6, [])], [])
  | _ => ([], [])
noncomputable abbrev A3 (p : List Nat) := awp cfg (know know3) (drawOk cfg (know know3)) Try.f3.ntmps lv3 (cd Try.f3 p)
theorem vc3 (t : Tree) (l : List PStep) (e : Edit) (Q : AExit → LSt U → Prop) (h : ∀ y_1, y_1 = (e) → ∀ y_2, y_2 = (t) → ∀ y_3, y_3 = (((wrapN opsA y_1 l y_2).1)) → ∀ y_4, y_4 = (((wrapN opsB y_1 l y_2).1)) → ((pre14 (y_2, ())) ∧ (Tr ((!(!(goodT y_2))) = true)) ∧ ((!(!(goodT y_2))) = true → pre15 (y_1, ())) ∧ (Tr ((!(!(goodT y_2))) = true)) ∧ (((!(goodT y_2)) = false → (!(!(goodT y_2))) = true)) ∧ (Tr ((!(bif (!(goodT y_2)) then true else (!(good y_1)))) = true)) ∧ (Tr ((!(bif (!(goodT y_2)) then true else (!(good y_1)))) = true)) ∧ (((bif (!(goodT y_2)) then true else (!(good y_1))) = false → (!(bif (!(goodT y_2)) then true else (!(good y_1)))) = true)) ∧ (((bif (bif (!(goodT y_2)) then true else (!(good y_1))) then true else (decide ((70 : Int) < (l.length : Int)))) = true → (pre16 (())) ∧ (Q .ret (⟨[(6, .c (.bool true))], [], []⟩ : LSt U))) ∧ ((bif (bif (!(goodT y_2)) then true else (!(good y_1))) then true else (decide ((70 : Int) < (l.length : Int)))) = false → (pre17 (y_2, l, y_1, ())) ∧ ((pre18 (y_2, l, y_1, ())) ∧ ((Tr ((((wrapN opsA y_1 l y_2).2) == ((wrapN opsB y_1 l y_2).2)) = true)) ∧ (Tr ((((wrapN opsA y_1 l y_2).2) == ((wrapN opsB y_1 l y_2).2)) = true)) ∧ ((((wrapN opsA y_1 l y_2).2) == ((wrapN opsB y_1 l y_2).2)) = true → pre19 (y_3, y_4, ())) ∧ ((Tr ((((wrapN opsA y_1 l y_2).2) == ((wrapN opsB y_1 l y_2).2)) = true))) ∧ ((bif (((wrapN opsA y_1 l y_2).2) == ((wrapN opsB y_1 l y_2).2)) then (eqX y_3 y_4) else false) = true → pre16 (())) ∧ ((Tr ((bif (((wrapN opsA y_1 l y_2).2) == ((wrapN opsB y_1 l y_2).2)) then (eqX y_3 y_4) else false) = true))) ∧ (Q .ret (⟨[(6, .c (.bool (bif (bif (((wrapN opsA y_1 l y_2).2) == ((wrapN opsB y_1 l y_2).2)) then (eqX y_3 y_4) else false) then true else false)))], [], []⟩ : LSt U)))))))) :
    A3 [] (⟨[(0, .agg [.int .i64 (Tree.kind t), .slice (U := U) .u64 (Tree.words t) .unk, .slice (U := U) .tree (Tree.kids t) .unk]), (1, .c (.slice (U := U) .step l .unk)), (2, .agg [.int .i64 (Edit.kind e), .int .i64 (Tree.kind (Edit.old e)), .slice (U := U) .u64 (Tree.words (Edit.old e)) .unk, .slice (U := U) .tree (Tree.kids (Edit.old e)) .unk, .int .i64 (Tree.kind (Edit.new e)), .slice (U := U) .u64 (Tree.words (Edit.new e)) .unk, .slice (U := U) .tree (Tree.kids (Edit.new e)) .unk, .slice (U := U) .wedit (Edit.words e) .unk, .slice (U := U) .kid (Edit.kids e) .unk, .int .i64 (Edit.list e), .slice (U := U) .op (Edit.ops e) .unk])], [], []⟩ : LSt U) Q :=
  Eq.mpr (by kernel_rfl) (h _ (reEdit_eq _) _ (reTree_eq _) _ (reEdit_eq _) _ (reEdit_eq _))
def Body3 (t : Tree) (l : List PStep) (e : Edit)  : Prop := awp cfg (know (know3)) (drawOk cfg (know (know3))) Try.f3.ntmps lv3 (cd Try.f3 []) (entry (args3.can (t, l, e, ())) []) (EndsQ cfg Try.f3.ntmps Try.f3.results.toList (res3 (t, l, e, ())) [])
theorem make3 (c14 : Contract Try.prog cfg 14 spec14) (c15 : Contract Try.prog cfg 15 spec15) (c16 : Contract Try.prog cfg 16 spec16) (c17 : Contract Try.prog cfg 17 spec17) (c18 : Contract Try.prog cfg 18 spec18) (c19 : Contract Try.prog cfg 19 spec19) (hb : ∀ (t : Tree) (l : List PStep) (e : Edit) (_ : Unit), pre3 (t, l, e, ()) → Body3 t l e) : Contract Try.prog cfg 3 spec3 :=
  contract_flat (l := [(14, spec14), (15, spec15), (16, spec16), (17, spec17), (18, spec18), (19, spec19)]) cfgOk rfl (⟨c14, c15, c16, c17, c18, c19, trivial⟩) lv3 Try.func3 rfl rfl 3 (fun _ => rfl) (by decide) (fun ⟨t, l, e, _⟩ => hb t l e ())
end Go.AM.Ytpjenobkibfpcaa

namespace Go.AM.Ytpjenobkibfpcaa
open Go.AM Go.Proofs
def awE : Edit := .mk 2 (.mk 0 [] []) (.mk 0 [] []) [⟨0, 1, 1, 2⟩] [] 0 []
def awT : Tree := .mk 8 [] [.mk 0 [] [], .mk 1 [1] [], .mk 0 [] []]
def awX : Edit := .mk 3 Tree.nil Tree.nil [] [] 8 [⟨0, 1, [], Edit.nil⟩, ⟨3, 0, [], awE⟩, ⟨0, 1, [], Edit.nil⟩]
theorem aw_wrap : wrapN opsA awE [⟨0, 1⟩] awT = (awX, true) := by kernel_rfl
theorem aw_nar : narN awX [⟨0, 1⟩] = (awE, [⟨0, 1⟩], true) := by kernel_rfl
theorem aw_right : rightE awX 64 = true := by kernel_rfl
theorem c16 : Contract Try.prog cfg 16 spec16 := by
  refine make16 c17 c27 ?_
  intro _ _
  refine vc16 _ ?_
  rintro y1 h1 y2 h2 y3 h3 y4 h4
  have e1 : y1 = awT := h1
  have e2 : y2 = awE := h2
  rw [e1, e2, aw_wrap] at h3 h4
  have e3 : y3 = awX := h3
  have e4 : y4 = ⟨3, 0, [], awE⟩ := h4
  rw [e1, e2, e3, e4, aw_wrap, aw_nar]
  (simp only [vcT, vcS])
  have rn : rng (.mk 0 [] []) := ⟨by decide, by simp, trivial⟩
  have re : rngE awE := ⟨by unfold isI; omega, rn, rn, by simp [rngW, isI, isW], by unfold isI; omega, trivial, trivial⟩
  have rt : rng awT := ⟨by decide, by simp, rn, ⟨by decide, by simp, trivial⟩, rn, trivial⟩
  have ro : rngOp ⟨0, 1, [], Edit.nil⟩ := ⟨by unfold isI; omega, by unfold isI; omega, trivial, rngE_nil⟩
  have rx : rngE awX := ⟨by unfold isI; omega, rn, rn, by simp, by unfold isI; omega, trivial, ro, ⟨by unfold isI; omega, by unfold isI; omega, trivial, re⟩, ro, trivial⟩
  refine ⟨⟨⟨⟨?_, rt⟩, ?_, re⟩, by simp [isI], by decide⟩, ⟨⟨?_, rx, 64, aw_right⟩, by decide⟩, ?_⟩
  · show mass awT ≤ 1000000000
    rw [show mass awT = 5 by kernel_rfl]; decide
  · show massE awE ≤ 1000000000
    rw [show massE awE = 4 by kernel_rfl]; decide
  · show massE awX ≤ 1000000000
    rw [show massE awX = 16 by kernel_rfl]; decide
  refine ⟨fun _ => ⟨by decide, ?_⟩, fun _ => ⟨by decide, by simp⟩, ends_bool rfl ?_⟩
  · show (1 : Int) < ((3 : Nat) : Int); decide
  · kernel_rfl
theorem c14 : Contract Try.prog cfg 14 spec14 := by
  refine make14 c36 c37 ?_
  intro t _ hp
  simp only [pre14] at hp
  refine vc14 _ _ ?_
  (simp only [Tree.eta, Edit.eta, Tree.kind_mk, Tree.words_mk, Tree.kids_mk])
  (simp only [vcT, vcS])
  refine ⟨by simp only [pre36]; exact hp.1, fun h => by simp only [pre37]; exact ⟨Nat.le_trans (few_mass' h) (by decide), hp.2, by omega, by omega⟩, ends_bool rfl ?_⟩
  unfold goodT
  rw [Bool.eq_iff_iff]
  simp only [bif_fr, Bool.and_eq_true, decide_eq_true_eq, bne_iff_ne]
theorem c3 : Contract Try.prog cfg 3 spec3 := by
  refine make3 c14 c15 c16 c17 c18 c19 ?_
  intro t l e _ hp
  simp only [pre3] at hp
  obtain ⟨⟨ht, hr⟩, hl, he, hre⟩ := hp
  refine vc3 _ _ _ _ ?_
  rintro y1 rfl y2 rfl y3 hy3 y4 hy4
  dsimp only at hy3 hy4
  (simp only [vcT, vcS])
  try simp only [vcU]
  refine ⟨⟨ht, hr⟩, fun _ => ⟨he, hre⟩, fun _ => ⟨trivial, ?_⟩, fun hg => ?_⟩
  · simp only [res3]
    (repeat' (first | exact trivial | exact rfl | apply And.intro))
  · obtain ⟨⟨g1, g3⟩, g4⟩ := hg
    have hm := (good_ref g3 hre).2.1
    have htm : mass y2 ≤ 3000 := by
      simp only [goodT, Bool.and_eq_true, decide_eq_true_eq] at g1
      have := shallow_mass y2 80 3000 g1.1.1
      omega
    have e := wrapN_eq y1 l y2 (by omega)
    rw [← e] at hy4 ⊢
    have e34 : y4 = y3 := by rw [hy3, hy4]
    subst e34
    have h19 : massE y4 ≤ 20000000000 := by
      rw [hy4]
      have m1 := mass_wrapG (f := opsA) (fun len i x _ _ => by have := mass_opsA len i x; omega) y1 l y2
      unfold wrapN
      split
      · have := massE_nrm (wrapG opsA y1 l y2).1
        dsimp only
        omega
      · dsimp only; rw [massE_nil]; omega
    have hpp : pre17 (y2, l, y1, ()) := ⟨⟨⟨Nat.le_trans htm (by decide), hr⟩, Nat.le_trans hm (by decide), hre⟩, hl, by show l.length ≤ 70; omega⟩
    refine ⟨hpp, hpp, fun _ => h19, fun _ => trivial, ?_⟩
    rw [eqX_self, beq_self_eq_true]
    simp only [res3]
    (repeat' (first | exact trivial | exact rfl | apply And.intro))
end Go.AM.Ytpjenobkibfpcaa
