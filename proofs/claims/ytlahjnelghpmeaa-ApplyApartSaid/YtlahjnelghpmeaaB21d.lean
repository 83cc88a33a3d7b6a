import Derived.Test.YtlahjnelghpmeaaG21b
set_option linter.unusedSimpArgs false
set_option linter.unusedVariables false
namespace Go.AM.Ytlahjnelghpmeaa
open Go.AM Go.Proofs

theorem c1071 : Contract Try.prog cfg 71 spec1071 := by
  refine make1071 ?_
  intro l _ hp
  simp only [pre1071] at hp
  refine vc1071 _ _ ⟨fun h => ?_, fun _ => ⟨by simp only [List.length_nil]; omega, ?_⟩⟩
  · subst h
    simp only [resL1071]
    (repeat' (first | exact trivial | exact rfl | refine And.intro ?_ ?_))
  · simp only [resL1071]
    (repeat' (first | exact trivial | exact rfl | refine And.intro ?_ ?_))

theorem c126 : Contract Try.prog cfg 126 spec126 := by
  refine make126 ?_
  intro l _ hp
  simp only [pre126] at hp
  refine vc126 _ _ ⟨fun h => ?_, fun _ => ⟨by simp only [List.length_nil]; omega, ?_⟩⟩
  · subst h
    simp only [resL126]
    (repeat' (first | exact trivial | exact rfl | refine And.intro ?_ ?_))
  · simp only [resL126]
    (repeat' (first | exact trivial | exact rfl | refine And.intro ?_ ?_))

theorem setPad_in {α : Type} (z : α) {l : List α} {i : Nat} (h : i < l.length) (x : α) : setPad z l i x = l.set i x := by
  simp only [setPad]; rw [show i + 1 - l.length = 0 by omega]; simp
theorem setPad_snoc {α : Type} (z : α) {l : List α} {i : Nat} (h : l.length ≤ i) (x : α) : setPad z (l ++ [z]) i x = setPad z l i x := by
  simp only [setPad, List.length_append, List.length_singleton, List.append_assoc]
  rw [show i + 1 - l.length = (i + 1 - (l.length + 1)) + 1 by omega, List.replicate_succ]
  rfl
theorem massKT (t : Tree) : t.words.length + massK t.kids + 1 = mass t := by obtain ⟨k, w, ks⟩ := t; simp only [mass, Tree.words_mk, Tree.kids_mk]; omega
theorem rng_at {t : Tree} (h : rng t) : isI t.kind ∧ (∀ x ∈ t.words, isW x) ∧ rngK t.kids := by obtain ⟨k, w, ks⟩ := t; exact h
theorem rng_kid {ks : List Tree} (h : rngK ks) (i : Nat) : rng (ks.getD i Tree.nil) := by
  by_cases hi : i < ks.length
  · exact rngK_mem h (mem_getD hi _)
  · rw [List.getD_eq_getElem?_getD, List.getElem?_eq_none (by omega)]
    refine ⟨by decide, by simp [Tree.nil], trivial⟩
theorem mass_kid (ks : List Tree) (i : Nat) : mass (ks.getD i Tree.nil) ≤ massK ks + 1 := by
  by_cases hi : i < ks.length
  · have := massK_mem (mem_getD hi Tree.nil); omega
  · rw [List.getD_eq_getElem?_getD, List.getElem?_eq_none (by omega)]
    simp [Tree.nil, mass, massK]
theorem kidAt_pos (t : Tree) {i : Int} (h : 0 ≤ i) : kidAt t i = t.kids.getD i.toNat Tree.nil := by unfold kidAt; rw [if_neg (by omega)]
theorem wordAt_pos (t : Tree) {i : Int} (h : 0 ≤ i) : wordAt t i = t.words.getD i.toNat 0 := by unfold wordAt; rw [if_neg (by omega)]
theorem word_in {l : List Int} (h : ∀ x ∈ l, isW x) (i : Nat) : isW (l.getD i 0) := by
  by_cases hi : i < l.length
  · exact h _ (mem_getD hi _)
  · rw [List.getD_eq_getElem?_getD, List.getElem?_eq_none (by omega)]; show 0 ≤ (0 : Int) ∧ (0 : Int) < _; omega

theorem b82 : HB82 := by
  intro N e t _ hp hN
  simp only [pre82, mu82] at hp hN
  obtain ⟨⟨p1, p2, d, p3⟩, p4, p5⟩ := hp
  have h1 := len_massE e
  have h2 := rngE_at p2
  have hd := doE_at false e t
  rw [nrD_false] at hd
  refine vc82 _ _ _ _ ?_
  rintro y1 hy1 y2 hy2 y3 hy3
  subst hy1 hy2 hy3
  (simp only [vcT, bif_tl, bif_fr, bif_tlf, bif_frf, Bool.not_eq_true', Bool.not_eq_false', decide_eq_true_eq, decide_eq_false_iff_not, beq_iff_eq, beq_eq_false_iff_ne, bne_iff_ne, ne_eq, bne_eq_false_iff_eq, Bool.or_eq_true, Bool.and_eq_true, Bool.or_eq_false_iff, Bool.and_eq_false_imp])
  refine ⟨fun hk => ?_, fun hk => ⟨fun hk1 => ⟨by simp only [pre34]; omega, ?_⟩, fun hk1 => ⟨fun hk2 => ⟨by simp only [pre113]; exact ⟨hk2, ⟨p1, p2, d, p3⟩, p4, p5⟩, by simp only [mu113]; omega, ?_⟩, fun hk2 => ⟨fun hk3 => ⟨by simp only [pre114]; exact ⟨hk3, ⟨p1, p2, d, p3⟩, p4, p5⟩, by simp only [mu114]; omega, ?_⟩, fun hk3 => ?_⟩⟩⟩⟩
  · rw [if_pos hk] at hd
    simp only [res82, oneT, if_pos hk, hd]
    (repeat' (first | exact trivial | exact rfl | refine And.intro ?_ ?_))
  · rw [if_neg hk, if_pos hk1] at hd
    simp only [res82, oneT, if_neg hk, if_pos hk1, hd]
    cases sameT (normT y1.old) (normT y2) <;> (repeat' (first | exact trivial | exact rfl | refine And.intro ?_ ?_))
  · rw [if_neg hk, if_neg hk1, if_pos hk2] at hd
    simp only [res82, oneT, if_neg hk, if_neg hk1, if_pos hk2, hd]
    (repeat' (first | exact trivial | exact rfl | refine And.intro ?_ ?_))
  · rw [if_neg hk, if_neg hk1, if_neg hk2, if_pos hk3] at hd
    simp only [res82, oneT, if_neg hk, if_neg hk1, if_neg hk2, if_pos hk3, hd]
    have e2 : (if y2.kind = y1.list then (endD (doOs false y1.ops y2.kids [])).map fun b => Tree.mk y1.list [] b else none).isSome = (endD (lstD false y1 y2)).isSome := by
      unfold lstD
      split
      · cases endD (doOs false y1.ops y2.kids []) <;> rfl
      · rfl
    rw [e2]
    (repeat' (first | exact trivial | exact rfl | refine And.intro ?_ ?_))
  · rw [if_neg hk, if_neg hk1, if_neg hk2, if_neg hk3] at hd
    simp only [res82, oneT, if_neg hk, if_neg hk1, if_neg hk2, if_neg hk3, hd]
    (repeat' (first | exact trivial | exact rfl | refine And.intro ?_ ?_))

theorem b113 : HB113 := by
  intro N e t _ hp hN
  simp only [pre113, mu113] at hp hN
  obtain ⟨k2, ⟨p1, p2, d, p3⟩, p4, p5⟩ := hp
  have h1 := len_massE e
  have h2 := massKs_len e.kids
  have h3 := massKT t
  have h4 := massK_len t.kids
  have r2 := rngE_at p2
  have rt := rng_at p5
  have ri := rightE_all p3
  refine vc113 _ _ _ _ ?_
  (simp only [vcT, bif_tl, bif_fr, bif_tlf, bif_frf, Bool.not_eq_true', Bool.not_eq_false', decide_eq_true_eq, decide_eq_false_iff_not, beq_iff_eq, beq_eq_false_iff_ne, bne_iff_ne, ne_eq, bne_eq_false_iff_eq, Bool.or_eq_true, Bool.and_eq_true, Bool.or_eq_false_iff, Bool.and_eq_false_imp])
  have no : strD false e t = none → EndsQ cfg Try.f113.ntmps Try.f113.results.toList (res113 (e, t, ())) [] .ret (⟨[(4, .ptr (.loc 4) 0), (5, .c (.bool false))], [((.loc 4), [.int .i64 0, .nils, .nils])], []⟩ : LSt U) := by
    intro hs
    simp only [res113, hs]
    (repeat' (first | exact trivial | exact rfl | refine And.intro ?_ ?_))
  refine ⟨fun hk => no (by unfold strD; rw [if_neg hk]), fun hk => ?_⟩
  have hk : t.kind = 1 := by simpa using hk
  refine ⟨by simp only [pre1071]; omega, by simp only [pre126]; omega, ?_⟩
  refine loop_rule (ι := Int × List Int) (fun s => head113_0 e t s.1 s.2) (fun s => 0 ≤ s.1 ∧ s.1 ≤ e.words.length ∧ wsD t.words (e.words.drop s.1.toNat) s.2 = wsD t.words e.words t.words ∧ s.2.length ≤ t.words.length + 65536) (fun s => ((e.words.length : Int) - s.1).toNat) (0, t.words) rfl ⟨by simp, by simp, by simp, by simp⟩ ?_
  rintro ⟨i, out⟩ ⟨f1, f2, f3, f4⟩
  dsimp only at f1 f2 f3 f4
  refine vc113_l0 _ _ _ _ _ _ _ ?_
  rintro y1 hy1 y2 hy2
  subst hy1
  (simp only [vcT, bif_tl, bif_fr, bif_tlf, bif_frf, Bool.not_eq_true', Bool.not_eq_false', decide_eq_true_eq, decide_eq_false_iff_not, beq_iff_eq, beq_eq_false_iff_ne, bne_iff_ne, ne_eq, bne_eq_false_iff_eq, Bool.or_eq_true, Bool.and_eq_true, Bool.or_eq_false_iff, Bool.and_eq_false_imp])
  refine ⟨fun hi => ?_, fun hi => ?_⟩
  · have hmem := mem_getD (l := e.words) (i := i.toNat) (by omega) (WEdit.mk 0 0 0 0)
    rw [dropI f1 hi (WEdit.mk 0 0 0 0), ← hy2] at f3
    rw [← hy2] at hmem
    have hw := wordsOk_all ri.words y2 hmem
    obtain ⟨g1, g2, g3, g4⟩ := r2.2.2.2.1 y2 hmem
    have hat : wordAt y1 y2.at_ = y1.words.getD y2.at_.toNat 0 := wordAt_pos y1 (by omega)
    have hwi := word_in rt.2.1 y2.at_.toNat
    rw [wsD] at f3
    rw [hat]
    unfold isW at g3 g4 hwi
    refine ⟨⟨f1, hi⟩, by simp only [pre73], by simp only [pre127]; omega, fun hne => no ?_, fun heq => ?_⟩
    · rw [if_neg hne] at f3
      unfold strD
      rw [if_pos hk, ← f3]
      rfl
    · have heq : mix 0 (y1.words.getD y2.at_.toNat 0) y2.mask = y2.old := by simpa using heq
      rw [if_pos heq] at f3
      refine loop_rule (ι := List Int) (fun s => head113_1 e y1 i s) (fun s => (∀ v, setPad 0 s y2.at_.toNat v = setPad 0 out y2.at_.toNat v) ∧ s.length ≤ y1.words.length + 65536) (fun s => (y2.at_ + 1 - s.length).toNat) out rfl ⟨fun v => rfl, f4⟩ ?_
      rintro s ⟨q1, q2⟩
      refine vc113_l1 _ _ _ _ _ _ _ _ ?_
      (simp only [Tree.eta, Edit.eta, Tree.kind_mk, Tree.words_mk, Tree.kids_mk])
      rw [← hy2, hat]
      (simp only [vcT, bif_tl, bif_fr, bif_tlf, bif_frf, Bool.not_eq_true', Bool.not_eq_false', decide_eq_true_eq, decide_eq_false_iff_not, beq_iff_eq, beq_eq_false_iff_ne, bne_iff_ne, ne_eq, bne_eq_false_iff_eq, Bool.or_eq_true, Bool.and_eq_true, Bool.or_eq_false_iff, Bool.and_eq_false_imp])
      refine ⟨fun hl => ⟨by simp; omega, s ++ [0], rfl, ⟨fun v => ?_, by simp; omega⟩, by simp; omega⟩, fun hl => ?_⟩
      · rw [setPad_snoc 0 (by omega), q1]
      · have hl : y2.at_ < s.length := by omega
        refine ⟨by simp only [pre127]; omega, by omega, by omega, by unfold InR; omega, (i + 1, s.set y2.at_.toNat (mix (y1.words.getD y2.at_.toNat 0) y2.new y2.mask)), rfl, ⟨by dsimp only; omega, by dsimp only; omega, ?_, by simp only [List.length_set]; omega⟩, by dsimp only; omega⟩
        dsimp only
        rw [← f3, ← setPad_in 0 (by omega), q1]
  · rw [List.drop_of_length_le (by omega), wsD] at f3
    refine loop_rule (ι := Int × List Tree) (fun s => head113_2 e y1 out s.1 s.2) (fun s => 0 ≤ s.1 ∧ s.1 ≤ e.kids.length ∧ doKs false y1.kids (e.kids.drop s.1.toNat) s.2 = doKs false y1.kids e.kids y1.kids ∧ s.2.length ≤ y1.kids.length + 65536) (fun s => ((e.kids.length : Int) - s.1).toNat) (0, y1.kids) rfl ⟨by simp, by simp, by simp, by simp⟩ ?_
    rintro ⟨j, ks⟩ ⟨e1, e2, e3, e4⟩
    dsimp only at e1 e2 e3 e4
    refine vc113_l2 _ _ _ _ _ _ _ _ ?_
    rintro y1 hy1 y2 hy2 y3 hy3 y4 hy4
    subst hy1
    (simp only [vcT, bif_tl, bif_fr, bif_tlf, bif_frf, Bool.not_eq_true', Bool.not_eq_false', decide_eq_true_eq, decide_eq_false_iff_not, beq_iff_eq, beq_eq_false_iff_ne, bne_iff_ne, ne_eq, bne_eq_false_iff_eq, Bool.or_eq_true, Bool.and_eq_true, Bool.or_eq_false_iff, Bool.and_eq_false_imp])
    refine ⟨fun hj => ?_, fun hj => ?_⟩
    · have hmem := mem_getD (l := e.kids) (i := j.toNat) (by omega) (KidOf.mk 0 Edit.nil)
      rw [dropI e1 hj (KidOf.mk 0 Edit.nil), ← hy2] at e3
      rw [← hy2] at hmem
      have hk2 := rightKs_all ri.kids y2 hmem
      have hm := massKs_mem hmem
      have hr := (rngKs_mem r2.2.2.2.2.2.1 hmem).2
      have hat : kidAt y1 y2.at_ = y1.kids.getD y2.at_.toNat Tree.nil := kidAt_pos y1 (by omega)
      rw [hat] at hy4
      have hm4 := mass_kid y1.kids y2.at_.toNat
      have hr4 := rng_kid rt.2.2 y2.at_.toNat
      rw [doKs, doKid_at, ← hy4, ← hy3] at e3
      rw [← hy4] at hm4 hr4
      rw [← hy3] at hm hr hk2
      refine ⟨⟨e1, hj⟩, by simp only [pre74], by simp only [pre82]; exact ⟨⟨by omega, hr, _, hk2.2⟩, by omega, hr4⟩, by simp only [mu82]; omega, fun hne => no ?_, fun heq => ?_⟩
      · have hne : doE false y3 y4 = none := by simpa using hne
        rw [hne] at e3
        unfold strD
        rw [if_pos hk, ← f3, ← e3]
        rfl
      · obtain ⟨u, hu⟩ := Option.isSome_iff_exists.1 heq
        rw [hu, Option.bind_some] at e3
        refine loop_rule (ι := List Tree) (fun s => head113_3 e y1 out j s) (fun s => (∀ v, setPad Tree.nil s y2.at_.toNat v = setPad Tree.nil ks y2.at_.toNat v) ∧ s.length ≤ y1.kids.length + 65536) (fun s => (y2.at_ + 1 - s.length).toNat) ks rfl ⟨fun v => rfl, e4⟩ ?_
        rintro s ⟨q1, q2⟩
        refine vc113_l3 _ _ _ _ _ _ _ _ _ ?_
        rintro z1 hz1 z2 hz2 z3 hz3 z4 hz4 z5 hz5
        rw [← hy2] at hz2
        subst hz1 hz2
        rw [← hy3] at hz3
        subst hz3
        rw [hat, ← hy4] at hz4
        subst hz4
        rw [oneT_some hu] at hz5
        subst hz5
        (simp only [vcT, bif_tl, bif_fr, bif_tlf, bif_frf, Bool.not_eq_true', Bool.not_eq_false', decide_eq_true_eq, decide_eq_false_iff_not, beq_iff_eq, beq_eq_false_iff_ne, bne_iff_ne, ne_eq, bne_eq_false_iff_eq, Bool.or_eq_true, Bool.and_eq_true, Bool.or_eq_false_iff, Bool.and_eq_false_imp])
        refine ⟨fun hl => ⟨by simp; omega, s ++ [Tree.nil], rfl, ⟨fun v => ?_, by simp; omega⟩, by simp; omega⟩, fun hl => ?_⟩
        · rw [setPad_snoc Tree.nil (by omega), q1]
        · have hl : z2.at_ < s.length := by omega
          refine ⟨by omega, by omega, by unfold InR; omega, (j + 1, s.set z2.at_.toNat z5), rfl, ⟨by dsimp only; omega, by dsimp only; omega, ?_, by simp only [List.length_set]; omega⟩, by dsimp only; omega⟩
          dsimp only
          rw [← e3, ← setPad_in Tree.nil (by omega), q1]
    · rw [List.drop_of_length_le (by omega), doKs] at e3
      have hs : strD false e y1 = some (.mk 1 out ks) := by
        unfold strD
        rw [if_pos hk, ← f3, ← e3]
        rfl
      simp only [res113, hs]
      (repeat' (first | exact trivial | exact rfl | refine And.intro ?_ ?_))

theorem doOs_cons (r : Bool) (o : Op) (s : List Op) (rest out : List Tree) : doOs r (o :: s) rest out = (doOp r o rest out).bind fun x => doOs r s x.2 x.1 := by rw [doOs]
theorem rngK_drop {ks : List Tree} (h : rngK ks) (n : Nat) : rngK (ks.drop n) := by
  induction n generalizing ks with
  | zero => exact h
  | succ n ih => cases ks with
    | nil => exact h
    | cons a r => exact ih h.2
theorem b114 : HB114 := by
  intro N e t _ hp hN
  simp only [pre114, mu114] at hp hN
  obtain ⟨k3, ⟨p1, p2, d, p3⟩, p4, p5⟩ := hp
  have h1 := len_massE e
  have h2 := massOs_len e.ops
  have h3 := massKT t
  have h4 := massK_len t.kids
  have r2 := rngE_at p2
  have rt := rng_at p5
  have ri := rightE_all p3
  refine vc114 _ _ _ _ ?_
  (simp only [vcT, bif_tl, bif_fr, bif_tlf, bif_frf, Bool.not_eq_true', Bool.not_eq_false', decide_eq_true_eq, decide_eq_false_iff_not, beq_iff_eq, beq_eq_false_iff_ne, bne_iff_ne, ne_eq, bne_eq_false_iff_eq, Bool.or_eq_true, Bool.and_eq_true, Bool.or_eq_false_iff, Bool.and_eq_false_imp])
  have no : lstD false e t = none → EndsQ cfg Try.f114.ntmps Try.f114.results.toList (res114 (e, t, ())) [] .ret (⟨[(4, .ptr (.loc 4) 0), (5, .c (.bool false))], [((.loc 4), [.int .i64 0, .nils, .nils])], []⟩ : LSt U) := by
    intro hs
    simp only [res114, hs]
    (repeat' (first | exact trivial | exact rfl | refine And.intro ?_ ?_))
  refine ⟨fun hk => no (by unfold lstD; rw [if_neg hk]), fun hk => ?_⟩
  have hk : t.kind = e.list := by simpa using hk
  have hl0 : lstD false e t = doOs false e.ops t.kids [] := by unfold lstD; rw [if_pos hk]
  refine loop_rule (ι := Int × List Tree × List Tree) (fun s => head114_0 e t s.1 s.2.2 s.2.1)
    (fun s => 0 ≤ s.1 ∧ s.1 ≤ e.ops.length ∧ doOs false (e.ops.drop s.1.toNat) s.2.2 s.2.1 = lstD false e t ∧ s.2.1.length + s.2.2.length + massOs (e.ops.drop s.1.toNat) ≤ t.kids.length + massOs e.ops ∧ massK s.2.2 ≤ massK t.kids ∧ rngK s.2.2)
    (fun s => ((e.ops.length : Int) - s.1).toNat) (0, [], t.kids) rfl ⟨by simp, by simp, by simp [hl0], by simp, by simp, rt.2.2⟩ ?_
  rintro ⟨i, out, rest⟩ ⟨f1, f2, f3, f4, f5, f6⟩
  dsimp only at f1 f2 f3 f4 f5 f6
  refine vc114_l0 _ _ _ _ _ _ _ _ ?_
  rintro y1 hy1
  (simp only [vcT, bif_tl, bif_fr, bif_tlf, bif_frf, Bool.not_eq_true', Bool.not_eq_false', decide_eq_true_eq, decide_eq_false_iff_not, beq_iff_eq, beq_eq_false_iff_ne, bne_iff_ne, ne_eq, bne_eq_false_iff_eq, Bool.or_eq_true, Bool.and_eq_true, Bool.or_eq_false_iff, Bool.and_eq_false_imp])
  refine ⟨fun hi => ?_, fun hi => ?_⟩
  · have hmem := mem_getD (l := e.ops) (i := i.toNat) (by omega) Op.nil
    rw [dropI f1 hi Op.nil, ← hy1] at f3 f4
    rw [← hy1] at hmem
    have hr := Go.AM.rightOs_mem ri.ops y1 hmem
    have hm := massOs_mem hmem
    have hme := massOp_e y1
    have hro := rngOp_e (rngOs_mem r2.2.2.2.2.2.2 hmem)
    have hml := massK_len y1.l
    simp only [massOs] at f4
    rw [doOs_cons, doOp_at] at f3
    have go : ∀ (x : List Tree) (m : List Tree) (v : V U) N0 Q', doOs false (e.ops.drop (i + 1).toNat) x m = lstD false e t → m.length + x.length + massOs (e.ops.drop (i + 1).toNat) ≤ t.kids.length + massOs e.ops → massK x ≤ massK t.kids → rngK x →
        (∀ s2, s2 = head114_0 e t (i + 1) x m → N0 s2) → A114 N [1, 1, 1, 1, 0, 1, 0, 0, 1, 1, 1] (head114_1 e t i x m v) (AExit.then N0 (AExit.inBlock 0 (S114 N [1, 1, 1, 1, 1] Q'))) := by
      intro x m v N0 Q' a1 a2 a3 a4 a5
      exact vc114_c1 _ _ _ _ _ _ _ _ _ ⟨by unfold InR; omega, a5 _ rfl⟩
    have fin : ∀ (x m : List Tree), doOs false (e.ops.drop (i + 1).toNat) x m = lstD false e t → m.length + x.length + massOs (e.ops.drop (i + 1).toNat) ≤ t.kids.length + massOs e.ops → massK x ≤ massK t.kids → rngK x → ∀ s2, s2 = head114_0 e t (i + 1) x m →
        ∃ j : Int × List Tree × List Tree, s2 = head114_0 e t j.1 j.2.2 j.2.1 ∧ (0 ≤ j.1 ∧ j.1 ≤ e.ops.length ∧ doOs false (e.ops.drop j.1.toNat) j.2.2 j.2.1 = lstD false e t ∧ j.2.1.length + j.2.2.length + massOs (e.ops.drop j.1.toNat) ≤ t.kids.length + massOs e.ops ∧ massK j.2.2 ≤ massK t.kids ∧ rngK j.2.2) ∧ ((e.ops.length : Int) - j.1).toNat < ((e.ops.length : Int) - i).toNat := by
      rintro x m a1 a2 a3 a4 _ rfl
      exact ⟨(i + 1, m, x), rfl, ⟨by dsimp only; omega, by dsimp only; omega, a1, a2, a3, a4⟩, by dsimp only; omega⟩
    have r1 := rightOp_all hr
    have ht : ∀ n : Nat, (rest.take n).length ≤ rest.length ∧ (rest.take n).length + (rest.drop n).length = rest.length := by
      intro n
      simp only [List.length_take, List.length_drop]; omega
    refine ⟨⟨f1, hi⟩, fun hk2 => ⟨by omega, ?_⟩, fun hk2 => ⟨fun hk1 => ?_, fun hk1 => ⟨fun hk3 => ?_, fun hk3 => ?_⟩⟩⟩
    · rw [if_neg (by omega), if_neg (by omega), if_pos hk2, Option.bind_some] at f3
      exact go _ _ _ _ _ f3 (by simp only [List.length_append]; omega) f5 f6 (fin _ _ f3 (by simp only [List.length_append]; omega) f5 f6)
    · refine vc114_c2 _ _ _ _ _ _ _ _ _ _ ?_
      rintro z1 hz1 z2 hz2 z3 hz3 z4 hz4 z5 hz5 z6 hz6
      rw [← hy1] at hz1
      subst hz1
      rw [if_neg (by omega), if_pos hk1] at f3
      (simp only [vcT, bif_tl, bif_fr, bif_tlf, bif_frf, Bool.not_eq_true', Bool.not_eq_false', decide_eq_true_eq, decide_eq_false_iff_not, beq_iff_eq, beq_eq_false_iff_ne, bne_iff_ne, ne_eq, bne_eq_false_iff_eq, Bool.or_eq_true, Bool.and_eq_true, Bool.or_eq_false_iff, Bool.and_eq_false_imp])
      rw [Int.toNat_natCast] at hz5
      rw [Int.toNat_natCast]
      refine ⟨fun hs => no ?_, fun hs => ⟨by omega, by omega, fun h => by omega, fun _ => ⟨fun _ => ⟨?_, fun hq => no ?_, fun hq => ?_⟩, fun h => absurd hk1 h⟩⟩⟩
      · have : goneD z1.l rest = false := by unfold goneD; rw [decide_eq_false (by omega)]; rfl
        rw [this, if_neg (by simp)] at f3
        exact f3.symm
      · have := massK_take z1.l.length rest
        simp only [pre96]; omega
      · have : goneD z1.l rest = false := by unfold goneD; rw [← hz5, hq]; simp
        rw [this, if_neg (by simp)] at f3
        exact f3.symm
      · have : goneD z1.l rest = true := by unfold goneD; rw [← hz5, hq, decide_eq_true (by omega)]; rfl
        rw [this, if_pos rfl, Option.bind_some] at f3
        have hd := massK_drop z1.l.length rest
        have ht1 := ht z1.l.length
        exact go _ _ _ _ _ f3 (by omega) (by omega) (rngK_drop f6 _) (fin _ _ f3 (by omega) (by omega) (rngK_drop f6 _))
    · refine vc114_c2 _ _ _ _ _ _ _ _ _ _ ?_
      rintro z1 hz1 z2 hz2 z3 hz3 z4 hz4 z5 hz5 z6 hz6
      rw [← hy1] at hz1
      subst hz1
      rw [if_neg (by omega), if_neg hk1, if_neg hk2] at f3
      (simp only [vcT, bif_tl, bif_fr, bif_tlf, bif_frf, Bool.not_eq_true', Bool.not_eq_false', decide_eq_true_eq, decide_eq_false_iff_not, beq_iff_eq, beq_eq_false_iff_ne, bne_iff_ne, ne_eq, bne_eq_false_iff_eq, Bool.or_eq_true, Bool.and_eq_true, Bool.or_eq_false_iff, Bool.and_eq_false_imp])
      rw [show Int.toNat 1 = 1 from rfl]
      refine ⟨fun hs => no ?_, fun hs => ⟨by omega, by omega, fun h => by omega, fun _ => ⟨fun h => absurd h hk1, fun _ => ?_⟩⟩⟩
      · rw [if_pos (by omega)] at f3
        exact f3.symm
      · have hz : z3 = rest.getD 0 Tree.nil := by
          rw [hz3, hz2]
          cases rest with
          | nil => rfl
          | cons a r => rfl
        rw [if_neg (by omega), ← hz, ← hz4] at f3
        have hm3 := mass_kid rest 0
        have hr3 := rng_kid f6 0
        rw [← hz] at hm3 hr3
        have hre := right_desc hr hk3
        rw [← hz4] at hre hme hro
        refine ⟨?_, by simp only [pre82]; exact ⟨⟨by omega, hro.2.2.2, _, hre⟩, by omega, hr3⟩, by simp only [mu82]; omega, fun hne => no ?_, fun heq => ?_⟩
        · simp only [List.length_take]; omega
        · have hne : doE false z4 z3 = none := by simpa using hne
          rw [hne] at f3
          exact f3.symm
        · obtain ⟨u, hu⟩ := Option.isSome_iff_exists.1 heq
          rw [oneT_some hu] at hz6
          subst hz6
          rw [hu, Option.map_some, Option.bind_some] at f3
          have hd := massK_drop 1 rest
          have ht1 := ht 1
          have ht2 : (rest.take 1).length = 1 := by simp only [List.length_take]; omega
          refine ⟨by simp only [List.length_singleton]; omega, ?_⟩
          exact go _ _ _ _ _ f3 (by simp only [List.length_append, List.length_singleton]; omega) (by omega) (rngK_drop f6 _) (fin _ _ f3 (by simp only [List.length_append, List.length_singleton]; omega) (by omega) (rngK_drop f6 _))
    · have hk0 : y1.kind = 0 := by cases r1 <;> first | rfl | (exfalso; simp at hk1 hk2 hk3)
      refine vc114_c2 _ _ _ _ _ _ _ _ _ _ ?_
      rintro z1 hz1 z2 hz2 z3 hz3 z4 hz4 z5 hz5 z6 hz6
      rw [← hy1] at hz1
      subst hz1
      rw [if_pos hk0] at f3
      have hn : 1 ≤ z1.n ∧ z1.n ≤ 1048576 := by cases r1 <;> first | (constructor <;> assumption) | (exfalso; simp at hk1 hk2 hk3 hk0)
      (simp only [vcT, bif_tl, bif_fr, bif_tlf, bif_frf, Bool.not_eq_true', Bool.not_eq_false', decide_eq_true_eq, decide_eq_false_iff_not, beq_iff_eq, beq_eq_false_iff_ne, bne_iff_ne, ne_eq, bne_eq_false_iff_eq, Bool.or_eq_true, Bool.and_eq_true, Bool.or_eq_false_iff, Bool.and_eq_false_imp])
      refine ⟨fun hs => no ?_, fun hs => ⟨by omega, by omega, fun _ => ⟨?_, ?_⟩, fun h => absurd hk0 h⟩⟩
      · rw [if_neg (by omega)] at f3
        exact f3.symm
      · have := (ht z1.n.toNat).1
        omega
      · rw [if_pos (by omega), Option.bind_some] at f3
        have hd := massK_drop z1.n.toNat rest
        have ht1 := ht z1.n.toNat
        exact go _ _ _ _ _ f3 (by simp only [List.length_append]; omega) (by omega) (rngK_drop f6 _) (fin _ _ f3 (by simp only [List.length_append]; omega) (by omega) (rngK_drop f6 _))
  · rw [List.drop_of_length_le (by omega), doOs] at f3
    simp only [res114, ← f3, lstT, endD, Option.bind_some, hk]
    by_cases hr : rest.length = 0
    · rw [if_pos hr, hr]
      (repeat' (first | exact trivial | exact rfl | refine And.intro ?_ ?_))
    · rw [if_neg hr, show ((rest.length : Int) == 0) = false by rw [beq_eq_false_iff_ne]; omega]
      (repeat' (first | exact trivial | exact rfl | refine And.intro ?_ ?_))

theorem c82_ : Contract Try.prog cfg 82 spec82 ∧ Contract Try.prog cfg 113 spec113 ∧ Contract Try.prog cfg 114 spec114 := make82_ c34 c73 c74 c96 c126 c127 c1071 b82 b113 b114
theorem c82 : Contract Try.prog cfg 82 spec82 := c82_.1

end Go.AM.Ytlahjnelghpmeaa

namespace Go.AM.Ytlahjnelghpmeaa
open Go.AM Go.Proofs

def rOp (list : Int) (d : Int) (o : Op) : Prop := (o.kind = 0 → 1 ≤ o.n ∧ o.l.length = 0 ∧ sameE o.e = true) ∧ (o.kind ≠ 0 → rightOp list o d = true)


end Go.AM.Ytlahjnelghpmeaa

namespace Go.AM.Ytlahjnelghpmeaa
open Go.AM Go.Proofs


theorem rng_nilT : rng Tree.nil := by
  simp only [Tree.nil, rng, rngK]
  exact ⟨by decide, by simp, trivial⟩



end Go.AM.Ytlahjnelghpmeaa

namespace Go.AM.Ytlahjnelghpmeaa
open Go.AM Go.Proofs

theorem massTK (t : Tree) : t.words.length + massK t.kids + 1 = mass t := by obtain ⟨k, w, ks⟩ := t; simp only [mass, Tree.words_mk, Tree.kids_mk]; omega
theorem massK_set : ∀ (l : List Tree) (i : Nat) (x : Tree), i < l.length → massK (l.set i x) + mass (l.getD i Tree.nil) = massK l + mass x
  | [], i, x, h => by simp at h
  | a :: r, 0, x, _ => by simp only [List.set_cons_zero, massK, List.getD_cons_zero]; omega
  | a :: r, i + 1, x, h => by
    have := massK_set r i x (by simpa using h)
    simp only [List.set_cons_succ, massK, List.getD_cons_succ]; omega
theorem massK_reps (n : Nat) : massK (List.replicate n Tree.nil) = n := by
  induction n with
  | zero => rfl
  | succ n ih => rw [List.replicate_succ, massK, ih]; simp [Tree.nil, mass, massK]; omega
theorem massK_cat : ∀ (a b : List Tree), massK (a ++ b) = massK a + massK b
  | [], b => by simp [massK]
  | t :: r, b => by simp only [List.cons_append, massK, massK_cat r b]; omega
theorem massK_pad (l : List Tree) (i : Nat) (x : Tree) : massK (setPad Tree.nil l i x) + mass (l.getD i Tree.nil) ≤ massK l + mass x + (i + 1) := by
  have h := massK_set (l ++ List.replicate (i + 1 - l.length) Tree.nil) i x (by simp; omega)
  have e : (l ++ List.replicate (i + 1 - l.length) Tree.nil).getD i Tree.nil = l.getD i Tree.nil := by
    by_cases hi : i < l.length
    · simp only [List.getD_eq_getElem?_getD]; rw [List.getElem?_append_left hi]
    · simp only [List.getD_eq_getElem?_getD]
      rw [List.getElem?_append_right (by omega), List.getElem?_eq_none (l := l) (by omega), List.getElem?_replicate]
      split <;> rfl
  rw [e, massK_cat, massK_reps] at h
  simp only [setPad]
  omega

theorem wsD_len {tw : List Int} : ∀ {ws : List WEdit} {last : Int} {out a : List Int}, wordsOk last ws = true → wsD tw ws out = some a → a.length ≤ max out.length 65535
  | [], _, out, a, _, h => by rw [wsD] at h; cases h; omega
  | w :: r, last, out, a, hw, h => by
    have h1 := wordsOk_all hw w List.mem_cons_self
    simp only [wordsOk, Bool.and_eq_true] at hw
    rw [wsD] at h
    split at h
    · have := wsD_len hw.2 h
      rw [setPad_length] at this
      omega
    · cases h

theorem rightKs_cons {last d : Int} {k : Kid} {r : List Kid} (h : rightKs last (k :: r) d = true) : (last < k.at_ ∧ k.at_ ≤ 65534) ∧ rightE k.e d = true ∧ rightKs k.at_ r d = true := by
  have := rightKs_all h k List.mem_cons_self
  simp only [rightKs, Bool.and_eq_true] at h
  exact ⟨⟨this.1.1, this.1.2.1⟩, this.2, h.2⟩

theorem mass_step {A B C b u m M s o : Nat} (m1 : u + 262144 ≤ B + 131072 * m) (m2 : A + B ≤ o + u + C) (m3 : b + 131072 * s ≤ A + 131072 * M) (m4 : C ≤ 131072) : b + 131072 * (s + 1) ≤ o + 131072 * (m + M) := by
  rw [Nat.mul_add, Nat.mul_add, Nat.mul_one, ← Nat.add_assoc]
  generalize 131072 * s = S at *
  generalize 131072 * m = X at *
  generalize 131072 * M = Y at *
  omega

theorem nrD_mass (r : Bool) (v : Tree) : mass (nrD r v) ≤ mass v := by
  unfold nrD
  split
  · exact normT_mass v
  · exact Nat.le_refl _

mutual
theorem mass_raw (r : Bool) : ∀ (e : Edit) (d : Int) (t v : Tree), rightE e d = true → rawE r e t = some v → mass v + 262144 ≤ mass t + 131072 * massE e
  | .mk k o n w ks l os, d, t, v, hr, hv => by
    have ri := rightE_all hr
    have h1 := mass_doKs r ks t.kids
    have h2 := mass_doOs r l os
    have hm := len_massE (.mk k o n w ks l os)
    have po := mass_pos o
    have pn := mass_pos n
    have ht := massTK t
    simp only [Edit.old_mk, Edit.new_mk, Edit.words_mk, Edit.kids_mk, Edit.ops_mk] at hm
    unfold rawE at hv
    split at hv
    · cases hv; omega
    · split at hv
      · split at hv
        · cases hv
          show mass n + _ ≤ _
          omega
        · cases hv
      · split at hv
        · split at hv
          · obtain ⟨a, ha, hb⟩ := Option.bind_eq_some_iff.1 hv
            obtain ⟨b, hb, e⟩ := Option.map_eq_some_iff.1 hb
            have l1 := wsD_len ri.words ha
            have l2 := h1 t.kids b _ (-1) (by omega) ri.kids (fun j _ => rfl) hb
            rw [← e]
            simp only [mass]
            omega
          · cases hv
        · split at hv
          · split at hv
            · obtain ⟨b, hb, e⟩ := Option.map_eq_some_iff.1 hv
              unfold endD at hb
              obtain ⟨x, hx, hy⟩ := Option.bind_eq_some_iff.1 hb
              have l2 := h2 _ t.kids [] x (fun o ho => Go.AM.rightOs_mem ri.ops o ho) hx
              split at hy
              · cases hy
                rw [← e]
                simp only [mass, List.length_nil]
                simp only [massK] at l2
                omega
              · cases hy
            · cases hv
          · cases hv
theorem mass_doKs (r : Bool) : ∀ (ks : List (KidOf Edit)) (tk out b : List Tree) (d last : Int), -1 ≤ last → rightKs last ks d = true → (∀ j : Nat, last < (j : Int) → out.getD j Tree.nil = tk.getD j Tree.nil) → doKs r tk ks out = some b → massK b + 131072 * ks.length ≤ massK out + 131072 * massKs ks
  | [], tk, out, b, d, last, _, _, _, h => by rw [doKs] at h; cases h; simp
  | k :: s, tk, out, b, d, last, hl, hr, hj, h => by
    obtain ⟨h1, h2, h3⟩ := rightKs_cons hr
    rw [doKs] at h
    obtain ⟨u, hu, hb⟩ := Option.bind_eq_some_iff.1 h
    have m1 := mass_doKid r k tk u d h2 hu
    have m2 := massK_pad out k.at_.toNat u
    rw [hj k.at_.toNat (by omega)] at m2
    have m3 := mass_doKs r s tk _ b d k.at_ (by omega) h3 (fun j hj' => by
      rw [setPad_getD, if_neg (by omega)]
      exact hj j (by omega)) hb
    have m4 : k.at_.toNat + 1 ≤ 131072 := by omega
    have e1 : massKs (k :: s) = massE k.e + massKs s := by rw [massKs, massKid_e]
    rw [e1, List.length_cons]
    exact mass_step m1 m2 m3 m4
theorem mass_doKid (r : Bool) : ∀ (k : KidOf Edit) (tk : List Tree) (u : Tree) (d : Int), rightE k.e d = true → doKid r tk k = some u → mass u + 262144 ≤ mass (tk.getD k.at_.toNat Tree.nil) + 131072 * massE k.e
  | ⟨a, e⟩, tk, u, d, hr, h => by
    rw [doKid, doE_raw] at h
    obtain ⟨v, hv, hu⟩ := Option.map_eq_some_iff.1 h
    have := mass_raw r e d (tk.getD a.toNat Tree.nil) v hr hv
    have hvu := nrD_mass r v
    rw [hu] at hvu
    dsimp only
    omega
theorem mass_doOs (r : Bool) (l : Int) : ∀ (os : List (OpOf Edit)) (d : Int) (rest out : List Tree) (x : List Tree × List Tree), (∀ o ∈ os, rightOp l o d = true) → doOs r os rest out = some x → massK x.1 + massK x.2 ≤ massK out + massK rest + 131072 * massOs os
  | [], d, rest, out, x, _, h => by rw [doOs] at h; cases h; simp
  | o :: s, d, rest, out, x, hr, h => by
    rw [doOs] at h
    obtain ⟨y, hy, hx⟩ := Option.bind_eq_some_iff.1 h
    have m1 := mass_doOp r l o d rest out y (hr o List.mem_cons_self) hy
    have m2 := mass_doOs r l s d _ _ x (fun q hq => hr q (List.mem_cons_of_mem _ hq)) hx
    rw [massOs]
    omega
theorem mass_doOp (r : Bool) (l : Int) : ∀ (o : OpOf Edit) (d : Int) (rest out : List Tree) (x : List Tree × List Tree), rightOp l o d = true → doOp r o rest out = some x → massK x.1 + massK x.2 ≤ massK out + massK rest + 131072 * massOp o
  | ⟨k, n, L, e⟩, d, rest, out, x, hr, h => by
    have he := mass_raw r e d (rest.getD 0 Tree.nil)
    have hp := massE_pos e
    rw [doOp] at h
    simp only [massOp]
    split at h
    · split at h
      · cases h
        have := massK_cat (rest.take n.toNat) (rest.drop n.toNat)
        rw [List.take_append_drop] at this
        dsimp only
        rw [massK_cat]; omega
      · cases h
    · split at h
      · split at h
        · cases h
          have := massK_drop L.length rest
          dsimp only; omega
        · cases h
      · split at h
        · cases h
          dsimp only
          rw [massK_cat]; omega
        · split at h
          · cases h
          · obtain ⟨u, hu, e2⟩ := Option.map_eq_some_iff.1 h
            cases e2
            have hk : k = 3 := by
              have ra := rightOp_all hr
              generalize ho : OpOf.mk k n L e = o at ra
              cases ra <;> (injection ho with h1; try omega)
            rw [doE_raw] at hu
            obtain ⟨v, hv, hu⟩ := Option.map_eq_some_iff.1 hu
            have := he v (right_desc hr hk) hv
            have hvu := nrD_mass r v
            rw [hu] at hvu
            cases rest with
            | nil => contradiction
            | cons a q =>
              rw [massK_cat]
              simp only [massK, List.drop_succ_cons, List.drop_zero, List.getD_cons_zero] at this ⊢
              omega
end


theorem mass_do (r : Bool) (e : Edit) (d : Int) (t u : Tree) (hr : rightE e d = true) (h : doE r e t = some u) : mass u + 262144 ≤ mass t + 131072 * massE e := by
  rw [doE_raw] at h
  obtain ⟨v, hv, hu⟩ := Option.map_eq_some_iff.1 h
  have := mass_raw r e d t v hr hv
  have hvu := nrD_mass r v
  rw [hu] at hvu
  omega

theorem of8_in {f : Nat → Int} (h : ∀ i, 0 ≤ f i ∧ f i < 256) : isW (of8 f) := by
  have h0 := h 0; have h1 := h 1; have h2 := h 2; have h3 := h 3; have h4 := h 4; have h5 := h 5; have h6 := h 6; have h7 := h 7
  unfold isW of8
  omega
theorem mix_in (a b m : Int) : isW (mix a b m) := of8_in (mixAt_range a b m)
theorem rng_nilT' : rng Tree.nil := ⟨by decide, by simp, trivial⟩

end Go.AM.Ytlahjnelghpmeaa

namespace Go.AM.Ytlahjnelghpmeaa
open Go.AM Go.Proofs

theorem doE_mass {r : Bool} {e : Edit} {t u : Tree} (he : massE e ≤ 1000000) (hr : ∃ d, rightE e d = true) (ht : mass t ≤ 100000000000) (h : doE r e t = some u) : mass u ≤ 1000000000000 := by
  obtain ⟨d, hr⟩ := hr
  have := mass_do r e d t u hr h
  omega

theorem c52 : Contract Try.prog cfg 52 spec52 := by
  refine make52 c32 c82 ?_
  intro e t _ hp
  simp only [pre52] at hp
  refine vc52 _ _ _ ?_
  rintro y1 hy1 y2 hy2 y3 hy3
  subst hy1 hy2
  (simp only [vcT, bif_tl, bif_fr, bif_tlf, bif_frf, Bool.not_eq_true', Bool.not_eq_false', decide_eq_true_eq, decide_eq_false_iff_not, beq_iff_eq, beq_eq_false_iff_ne, bne_iff_ne, ne_eq, bne_eq_false_iff_eq, Bool.or_eq_true, Bool.and_eq_true, Bool.or_eq_false_iff, Bool.and_eq_false_imp])
  refine ⟨by simp only [pre82]; exact hp, fun hn => ?_, fun hs => ?_⟩
  · have hn : doE false y1 y2 = none := by simpa using hn
    simp only [res52, hn]
    (repeat' (first | exact trivial | exact rfl | refine And.intro ?_ ?_))
  · obtain ⟨u, hu⟩ := Option.isSome_iff_exists.1 hs
    rw [oneT_some hu] at hy3
    subst hy3
    have := doE_mass hp.1.1 hp.1.2.2 hp.2.1 hu
    refine ⟨by simp only [pre32]; exact this, ?_⟩
    simp only [res52, hu]
    (repeat' (first | exact trivial | exact rfl | refine And.intro ?_ ?_))

end Go.AM.Ytlahjnelghpmeaa

namespace Go.AM.Ytlahjnelghpmeaa
open Go.AM Go.Proofs

section
variable {α β : Type} (z : α) (f : β → Option α) (p : β → Int)
def mg : List β → List α → Option (List α)
  | [], out => some out
  | w :: r, out => (f w).bind fun v => mg r (setPad z out (p w).toNat v)
def asc (last : Int) : List β → Prop
  | [] => True
  | w :: r => last < p w ∧ asc (p w) r

variable {z f p} {l0 : List α} {ws : List β} {n a i : Int} {out : List α}

theorem asc_gt {last : Int} : ∀ {l : List β}, asc p last l → ∀ w ∈ l, last < p w
  | [], _, _, hw => by cases hw
  | b :: r, h, w, hw => by
    rcases List.mem_cons.1 hw with rfl | hw
    · exact h.1
    · have := asc_gt h.2 w hw
      have := h.1
      omega
end

theorem wsD_mg (tw : List Int) : ∀ (ws : List WEdit) (out : List Int), wsD tw ws out = mg 0 (fun w => if mix 0 (tw.getD w.at_.toNat 0) w.mask = w.old then some (mix (tw.getD w.at_.toNat 0) w.new w.mask) else none) WEdit.at_ ws out
  | [], _ => rfl
  | w :: r, out => by
    rw [wsD, mg]
    split
    · rw [Option.bind_some]; exact wsD_mg tw r _
    · rfl
theorem doKs_mg (r : Bool) (tk : List Tree) : ∀ (ks : List Kid) (out : List Tree), doKs r tk ks out = mg Tree.nil (doKid r tk) KidOf.at_ ks out
  | [], _ => by rw [doKs]; rfl
  | k :: s, out => by
    rw [doKs, mg]
    congr 1
    funext u
    exact doKs_mg r tk s _
theorem words_asc : ∀ {ws : List WEdit} {last : Int}, wordsOk last ws = true → asc WEdit.at_ last ws
  | [], _, _ => trivial
  | w :: r, last, h => by
    have h1 := wordsOk_all h w List.mem_cons_self
    simp only [wordsOk, Bool.and_eq_true] at h
    exact ⟨h1.1, words_asc h.2⟩
theorem kids_asc : ∀ {ks : List Kid} {last d : Int}, rightKs last ks d = true → asc KidOf.at_ last ks
  | [], _, _, _ => trivial
  | k :: r, last, d, h => by
    obtain ⟨h1, _, h3⟩ := rightKs_cons h
    exact ⟨h1.1, kids_asc h3⟩

end Go.AM.Ytlahjnelghpmeaa

namespace Go.AM.Ytlahjnelghpmeaa
open Go.AM Go.Proofs

def args50 : ArgL (Tree × Unit) := (.cons (aEl .tree) .nil)
def pre50 (a : Tree × Unit) : Prop := small a.1 ∧ rng a.1
noncomputable def res50 (a : Tree × Unit) : V U := .c (.bool (goodT a.1))
noncomputable def spec50 : Fs U := fs args50 (fun a => [pre50 a]) res50

def args51 : ArgL (Unit) := .nil
def pre51 (a : Unit) : Prop := True
noncomputable def res51 (a : Unit) : V U := .c (.bool true)
noncomputable def spec51 : Fs U := fs args51 (fun a => [pre51 a]) res51

def args14 : ArgL (Edit × Tree × Tree × Unit) := (.cons (aEl .edit) (.cons (aEl .tree) (.cons (aEl .tree) .nil)))
def pre14 (a : Edit × Tree × Tree × Unit) : Prop := ((smallE a.1 ∧ rngE a.1) ∧ small a.2.1 ∧ rng a.2.1) ∧ small a.2.2.1 ∧ rng a.2.2.1
noncomputable def res14 (a : Edit × Tree × Tree × Unit) : V U := .c (.bool true)
noncomputable def spec14 : Fs U := fs args14 (fun a => [pre14 a]) res14

noncomputable def know50 : List (FuncId × Fs U) := [(29, spec29), (47, spec47)]
def lv50 : Lives U := fun i => match i with
  | 0 => ([(1, [])], [((.loc 1), [])])
  | 1 => ([(2, [])], [])
  | _ => ([], [])
noncomputable abbrev A50 (p : List Nat) := awp cfg (know know50) (drawOk cfg (know know50)) Try.f50.ntmps lv50 (cd Try.f50 p)
theorem vc50 (t : Tree) (Q : AExit → LSt U → Prop) (h : ((pre29 ((Tree.mk (Tree.kind t) (Tree.words t) (Tree.kids t)), ())) ∧ (Tr ((decide (0 ≤ shallow (Tree.mk (Tree.kind t) (Tree.words t) (Tree.kids t)) 80 3000)) = true)) ∧ ((decide (0 ≤ shallow (Tree.mk (Tree.kind t) (Tree.words t) (Tree.kids t)) 80 3000)) = true → pre47 ((Tree.mk (Tree.kind t) (Tree.words t) (Tree.kids t)), 64, ())) ∧ ((Tr ((decide (0 ≤ shallow (Tree.mk (Tree.kind t) (Tree.words t) (Tree.kids t)) 80 3000)) = true))) ∧ (Tr ((bif (decide (0 ≤ shallow (Tree.mk (Tree.kind t) (Tree.words t) (Tree.kids t)) 80 3000)) then (rightT (Tree.mk (Tree.kind t) (Tree.words t) (Tree.kids t)) 64) else false) = true)) ∧ (Tr ((bif (decide (0 ≤ shallow (Tree.mk (Tree.kind t) (Tree.words t) (Tree.kids t)) 80 3000)) then (rightT (Tree.mk (Tree.kind t) (Tree.words t) (Tree.kids t)) 64) else false) = true)) ∧ ((Tr ((bif (decide (0 ≤ shallow (Tree.mk (Tree.kind t) (Tree.words t) (Tree.kids t)) 80 3000)) then (rightT (Tree.mk (Tree.kind t) (Tree.words t) (Tree.kids t)) 64) else false) = true))) ∧ (Q .ret (⟨[(2, .c (.bool (bif (bif (decide (0 ≤ shallow (Tree.mk (Tree.kind t) (Tree.words t) (Tree.kids t)) 80 3000)) then (rightT (Tree.mk (Tree.kind t) (Tree.words t) (Tree.kids t)) 64) else false) then (((Tree.kind t) : Int) != 10) else false)))], [], []⟩ : LSt U)))) :
    A50 [] (⟨[(0, .agg [.int .i64 (Tree.kind t), .slice (U := U) .u64 (Tree.words t) .unk, .slice (U := U) .tree (Tree.kids t) .unk])], [], []⟩ : LSt U) Q :=
  Eq.mpr (by kernel_rfl) h
def Body50 (t : Tree)  : Prop := awp cfg (know (know50)) (drawOk cfg (know (know50))) Try.f50.ntmps lv50 (cd Try.f50 []) (entry (args50.can (t, ())) []) (EndsQ cfg Try.f50.ntmps Try.f50.results.toList (res50 (t, ())) [])
theorem make50 (c29 : Contract Try.prog cfg 29 spec29) (c47 : Contract Try.prog cfg 47 spec47) (hb : ∀ (t : Tree) (_ : Unit), pre50 (t, ()) → Body50 t) : Contract Try.prog cfg 50 spec50 :=
  contract_flat (l := [(29, spec29), (47, spec47)]) cfgOk rfl (⟨c29, c47, trivial⟩) lv50 Try.func50 rfl rfl 1 (fun _ => rfl) (by decide) (fun ⟨t, _⟩ => hb t ())

noncomputable def know51 : List (FuncId × Fs U) := [(52, spec52)]
def lv51 : Lives U := fun i => match i with
  | 0 => ([], [])
  | 1 => ([(1, [])], [((.loc 1), [])])
  | 2 => ([(1, []), (2, []), (3, [])], [((.loc 1), []), ((.loc 2), [])])
  | 3 => ([(2, []), (3, []), (5, [])], [((.loc 2), [])])
  | 4 => ([(0, [])], [])
  | _ => ([], [])
noncomputable abbrev A51 (p : List Nat) := awp cfg (know know51) (drawOk cfg (know know51)) Try.f51.ntmps lv51 (cd Try.f51 p)
theorem vc51 (Q : AExit → LSt U → Prop) (h : ∀ y_1, y_1 = (Edit.mk 2 (Tree.mk 0 ([]) ([])) (Tree.mk 0 ([]) ([])) ([(WEdit.mk 0 1 5 6)]) ([]) 0 ([])) → ∀ y_2, y_2 = (Tree.words (orNil ((doE false y_1 (Tree.mk 1 ([5]) ([]))).map normT))) → (((pre52 (y_1, (Tree.mk 1 ([5]) ([])), ())) ∧ ((pre52 (y_1, (Tree.mk 1 ([7]) ([])), ())) ∧ ((Tr (((doE false y_1 (Tree.mk 1 ([5]) ([]))).isSome) = true)) ∧ ((Tr (((doE false y_1 (Tree.mk 1 ([5]) ([]))).isSome) = true))) ∧ (Tr ((bif ((doE false y_1 (Tree.mk 1 ([5]) ([]))).isSome) then (!((doE false y_1 (Tree.mk 1 ([7]) ([]))).isSome)) else false) = true)) ∧ (Tr ((bif ((doE false y_1 (Tree.mk 1 ([5]) ([]))).isSome) then (!((doE false y_1 (Tree.mk 1 ([7]) ([]))).isSome)) else false) = true)) ∧ (Tr ((bif ((doE false y_1 (Tree.mk 1 ([5]) ([]))).isSome) then (!((doE false y_1 (Tree.mk 1 ([7]) ([]))).isSome)) else false) = true)) ∧ ((Tr ((bif ((doE false y_1 (Tree.mk 1 ([5]) ([]))).isSome) then (!((doE false y_1 (Tree.mk 1 ([7]) ([]))).isSome)) else false) = true))) ∧ (Tr ((bif (bif ((doE false y_1 (Tree.mk 1 ([5]) ([]))).isSome) then (!((doE false y_1 (Tree.mk 1 ([7]) ([]))).isSome)) else false) then (((y_2.length : Int) : Int) == 1) else false) = true)) ∧ (Tr ((bif (bif ((doE false y_1 (Tree.mk 1 ([5]) ([]))).isSome) then (!((doE false y_1 (Tree.mk 1 ([7]) ([]))).isSome)) else false) then (((y_2.length : Int) : Int) == 1) else false) = true)) ∧ ((bif (bif ((doE false y_1 (Tree.mk 1 ([5]) ([]))).isSome) then (!((doE false y_1 (Tree.mk 1 ([7]) ([]))).isSome)) else false) then (((y_2.length : Int) : Int) == 1) else false) = true → (0 : Int) ≤ 0 ∧ 0 < (y_2.length : Int)) ∧ (Tr ((bif (bif ((doE false y_1 (Tree.mk 1 ([5]) ([]))).isSome) then (!((doE false y_1 (Tree.mk 1 ([7]) ([]))).isSome)) else false) then (((y_2.length : Int) : Int) == 1) else false) = true)) ∧ (Tr ((bif (bif ((doE false y_1 (Tree.mk 1 ([5]) ([]))).isSome) then (!((doE false y_1 (Tree.mk 1 ([7]) ([]))).isSome)) else false) then (((y_2.length : Int) : Int) == 1) else false) = true)) ∧ ((Tr ((bif (bif ((doE false y_1 (Tree.mk 1 ([5]) ([]))).isSome) then (!((doE false y_1 (Tree.mk 1 ([7]) ([]))).isSome)) else false) then (((y_2.length : Int) : Int) == 1) else false) = true))) ∧ (Q .ret (⟨[(0, .c (.bool (bif (bif (bif ((doE false y_1 (Tree.mk 1 ([5]) ([]))).isSome) then (!((doE false y_1 (Tree.mk 1 ([7]) ([]))).isSome)) else false) then (((y_2.length : Int) : Int) == 1) else false) then (((List.getD y_2 (Int.toNat 0) (0 : Int)) : Int) == 6) else false)))], [], []⟩ : LSt U))))))) :
    A51 [] (⟨[], [], []⟩ : LSt U) Q :=
  Eq.mpr (by kernel_rfl) (h _ rfl _ rfl)
def Body51  : Prop := awp cfg (know (know51)) (drawOk cfg (know (know51))) Try.f51.ntmps lv51 (cd Try.f51 []) (entry (args51.can (())) []) (EndsQ cfg Try.f51.ntmps Try.f51.results.toList (res51 (())) [])
theorem make51 (c52 : Contract Try.prog cfg 52 spec52) (hb : ∀ (_ : Unit), pre51 (()) → Body51 ) : Contract Try.prog cfg 51 spec51 :=
  contract_flat (l := [(52, spec52)]) cfgOk rfl (⟨c52, trivial⟩) lv51 Try.func51 rfl rfl 0 (fun _ => rfl) (by decide) (fun _ => hb  ())

noncomputable def know14 : List (FuncId × Fs U) := [(36, spec36), (37, spec37), (50, spec50), (51, spec51), (52, spec52)]
def lv14 : Lives U := fun i => match i with
  | 0 => ([(3, []), (4, []), (5, [])], [((.loc 3), []), ((.loc 4), []), ((.loc 5), [])])
  | 1 => ([(3, []), (4, []), (5, []), (23, [])], [((.loc 3), []), ((.loc 4), []), ((.loc 5), [])])
  | 2 => ([(6, [])], [])
  | 3 => ([(3, []), (4, []), (5, []), (7, []), (8, [])], [((.loc 3), []), ((.loc 4), []), ((.loc 5), []), ((.loc 7), [])])
  | 4 => ([(4, []), (5, []), (7, []), (8, []), (9, []), (10, [])], [((.loc 4), []), ((.loc 5), []), ((.loc 7), []), ((.loc 9), [])])
  | 5 => ([(6, [])], [])
  | _ => ([], [])
noncomputable abbrev A14 (p : List Nat) := awp cfg (know know14) (drawOk cfg (know know14)) Try.f14.ntmps lv14 (cd Try.f14 p)
theorem vc14 (e : Edit) (a : Tree) (b : Tree) (Q : AExit → LSt U → Prop) (h : ∀ y_1, y_1 = (e) → ∀ y_2, y_2 = (a) → ∀ y_3, y_3 = (b) → ∀ y_4, y_4 = ((orNil ((doE false y_1 y_2).map normT))) → ∀ y_5, y_5 = ((orNil ((doE false y_1 y_3).map normT))) → ((pre50 (y_2, ())) ∧ (Tr ((!(!(goodT y_2))) = true)) ∧ ((!(!(goodT y_2))) = true → pre50 (y_3, ())) ∧ (Tr ((!(!(goodT y_2))) = true)) ∧ (((!(goodT y_2)) = false → (!(!(goodT y_2))) = true)) ∧ (Tr ((!(bif (!(goodT y_2)) then true else (!(goodT y_3)))) = true)) ∧ ((!(bif (!(goodT y_2)) then true else (!(goodT y_3)))) = true → pre37 (y_1, ())) ∧ (Tr ((!(bif (!(goodT y_2)) then true else (!(goodT y_3)))) = true)) ∧ (((bif (!(goodT y_2)) then true else (!(goodT y_3))) = false → (!(bif (!(goodT y_2)) then true else (!(goodT y_3)))) = true)) ∧ (((bif (bif (!(goodT y_2)) then true else (!(goodT y_3))) then true else (!(good y_1))) = true → (pre51 (())) ∧ (Q .ret (⟨[(6, .c (.bool true))], [], []⟩ : LSt U))) ∧ ((bif (bif (!(goodT y_2)) then true else (!(goodT y_3))) then true else (!(good y_1))) = false → (pre52 (y_1, y_2, ())) ∧ ((pre52 (y_1, y_3, ())) ∧ ((Tr ((!(!((doE false y_1 y_2).isSome))) = true)) ∧ (((!((doE false y_1 y_2).isSome)) = false → (!(!((doE false y_1 y_2).isSome))) = true)) ∧ (Tr ((!(bif (!((doE false y_1 y_2).isSome)) then true else (!((doE false y_1 y_3).isSome)))) = true)) ∧ (Tr ((!(bif (!((doE false y_1 y_2).isSome)) then true else (!((doE false y_1 y_3).isSome)))) = true)) ∧ ((!(bif (!((doE false y_1 y_2).isSome)) then true else (!((doE false y_1 y_3).isSome)))) = true → pre36 (y_4, y_5, ())) ∧ (Tr ((!(bif (!((doE false y_1 y_2).isSome)) then true else (!((doE false y_1 y_3).isSome)))) = true)) ∧ (Tr ((!(bif (!((doE false y_1 y_2).isSome)) then true else (!((doE false y_1 y_3).isSome)))) = true)) ∧ ((!(bif (!((doE false y_1 y_2).isSome)) then true else (!((doE false y_1 y_3).isSome)))) = true → pre36 (y_2, y_3, ())) ∧ (Tr ((!(bif (!((doE false y_1 y_2).isSome)) then true else (!((doE false y_1 y_3).isSome)))) = true)) ∧ (Tr ((!(bif (!((doE false y_1 y_2).isSome)) then true else (!((doE false y_1 y_3).isSome)))) = true)) ∧ (((bif (!((doE false y_1 y_2).isSome)) then true else (!((doE false y_1 y_3).isSome))) = false → (!(bif (!((doE false y_1 y_2).isSome)) then true else (!((doE false y_1 y_3).isSome)))) = true)) ∧ ((bif (bif (!((doE false y_1 y_2).isSome)) then true else (!((doE false y_1 y_3).isSome))) then true else ((sameT (normT y_4) (normT y_5)) == (sameT (normT y_2) (normT y_3)))) = true → pre51 (())) ∧ ((Tr ((bif (bif (!((doE false y_1 y_2).isSome)) then true else (!((doE false y_1 y_3).isSome))) then true else ((sameT (normT y_4) (normT y_5)) == (sameT (normT y_2) (normT y_3)))) = true))) ∧ (Q .ret (⟨[(6, .c (.bool (bif (bif (bif (!((doE false y_1 y_2).isSome)) then true else (!((doE false y_1 y_3).isSome))) then true else ((sameT (normT y_4) (normT y_5)) == (sameT (normT y_2) (normT y_3)))) then true else false)))], [], []⟩ : LSt U)))))))) :
    A14 [] (⟨[(0, .agg [.int .i64 (Edit.kind e), .int .i64 (Tree.kind (Edit.old e)), .slice (U := U) .u64 (Tree.words (Edit.old e)) .unk, .slice (U := U) .tree (Tree.kids (Edit.old e)) .unk, .int .i64 (Tree.kind (Edit.new e)), .slice (U := U) .u64 (Tree.words (Edit.new e)) .unk, .slice (U := U) .tree (Tree.kids (Edit.new e)) .unk, .slice (U := U) .wedit (Edit.words e) .unk, .slice (U := U) .kid (Edit.kids e) .unk, .int .i64 (Edit.list e), .slice (U := U) .op (Edit.ops e) .unk]), (1, .agg [.int .i64 (Tree.kind a), .slice (U := U) .u64 (Tree.words a) .unk, .slice (U := U) .tree (Tree.kids a) .unk]), (2, .agg [.int .i64 (Tree.kind b), .slice (U := U) .u64 (Tree.words b) .unk, .slice (U := U) .tree (Tree.kids b) .unk])], [], []⟩ : LSt U) Q :=
  Eq.mpr (by kernel_rfl) (h _ (reEdit_eq _) _ (reTree_eq _) _ (reTree_eq _) _ (reTree_eq _) _ (reTree_eq _))
def Body14 (e : Edit) (a : Tree) (b : Tree)  : Prop := awp cfg (know (know14)) (drawOk cfg (know (know14))) Try.f14.ntmps lv14 (cd Try.f14 []) (entry (args14.can (e, a, b, ())) []) (EndsQ cfg Try.f14.ntmps Try.f14.results.toList (res14 (e, a, b, ())) [])
theorem make14 (c36 : Contract Try.prog cfg 36 spec36) (c37 : Contract Try.prog cfg 37 spec37) (c50 : Contract Try.prog cfg 50 spec50) (c51 : Contract Try.prog cfg 51 spec51) (c52 : Contract Try.prog cfg 52 spec52) (hb : ∀ (e : Edit) (a : Tree) (b : Tree) (_ : Unit), pre14 (e, a, b, ()) → Body14 e a b) : Contract Try.prog cfg 14 spec14 :=
  contract_flat (l := [(36, spec36), (37, spec37), (50, spec50), (51, spec51), (52, spec52)]) cfgOk rfl (⟨c36, c37, c50, c51, c52, trivial⟩) lv14 Try.func14 rfl rfl 3 (fun _ => rfl) (by decide) (fun ⟨e, a, b, _⟩ => hb e a b ())

end Go.AM.Ytlahjnelghpmeaa

namespace Go.AM.Ytlahjnelghpmeaa
open Go.AM Go.Proofs

theorem step256 {x y x' y' : Int} (h : x + 256 * y = x' + 256 * y') (hx : 0 ≤ x ∧ x < 256) (hx' : 0 ≤ x' ∧ x' < 256) : x = x' ∧ y = y' := by omega
theorem of8_inj {f g : Nat → Int} (hf : ∀ i, 0 ≤ f i ∧ f i < 256) (hg : ∀ i, 0 ≤ g i ∧ g i < 256) (h : of8 f = of8 g) : ∀ i, i < 8 → f i = g i := by
  unfold of8 at h
  obtain ⟨h0, h⟩ := step256 h (hf 0) (hg 0)
  obtain ⟨h1, h⟩ := step256 h (hf 1) (hg 1)
  obtain ⟨h2, h⟩ := step256 h (hf 2) (hg 2)
  obtain ⟨h3, h⟩ := step256 h (hf 3) (hg 3)
  obtain ⟨h4, h⟩ := step256 h (hf 4) (hg 4)
  obtain ⟨h5, h⟩ := step256 h (hf 5) (hg 5)
  obtain ⟨h6, h7⟩ := step256 h (hf 6) (hg 6)
  intro i hi
  match i, hi with
  | 0, _ => exact h0
  | 1, _ => exact h1
  | 2, _ => exact h2
  | 3, _ => exact h3
  | 4, _ => exact h4
  | 5, _ => exact h5
  | 6, _ => exact h6
  | 7, _ => exact h7
theorem of8_bytes {a : Int} (h : isW a) : of8 (byteAt a) = a := by
  obtain ⟨h0, h1⟩ := h
  simp only [of8, byteAt]
  omega
theorem bytes_eq {a b : Int} (ha : isW a) (hb : isW b) (h : ∀ i, i < 8 → byteAt a i = byteAt b i) : a = b := by
  rw [← of8_bytes ha, ← of8_bytes hb]
  unfold of8
  rw [h 0 (by omega), h 1 (by omega), h 2 (by omega), h 3 (by omega), h 4 (by omega), h 5 (by omega), h 6 (by omega), h 7 (by omega)]
theorem mix_byte {a b m : Int} {i : Nat} (h : i < 8) : byteAt (mix a b m) i = mixAt a b m i :=
  of8_inj (fun i => byteAt_range _ i) (mixAt_range a b m) (by rw [of8_bytes (mix_in a b m)]; rfl) i h
theorem mix_inj {a b n m : Int} (ha : isW a) (hb : isW b) (h1 : mix a n m = mix b n m) (h2 : mix 0 a m = mix 0 b m) : a = b := by
  refine bytes_eq ha hb fun i hi => ?_
  have e1 := congrArg (fun x => byteAt x i) h1
  have e2 := congrArg (fun x => byteAt x i) h2
  simp only [mix_byte hi, mixAt] at e1 e2
  by_cases h : named m i = true
  · rw [if_pos h, if_pos h] at e2; exact e2
  · rw [if_neg h, if_neg h] at e1; exact e1

section
variable {α β : Type} {z : α} {f : β → Option α} {p : β → Int}
theorem mg_get : ∀ {ws : List β} {last : Int} {out r : List α}, -1 ≤ last → asc p last ws → mg z f p ws out = some r →
    (∀ w ∈ ws, ∃ v, f w = some v ∧ r.getD (p w).toNat z = v) ∧ (∀ i : Nat, (∀ w ∈ ws, (p w).toNat ≠ i) → r.getD i z = out.getD i z)
  | [], _, out, r, _, _, h => by
    rw [mg] at h; cases h
    exact ⟨fun w hw => (by cases hw), fun _ _ => rfl⟩
  | w :: s, last, out, r, hl, ha, h => by
    rw [mg] at h
    obtain ⟨v, hv, hr⟩ := Option.bind_eq_some_iff.1 h
    have h1 := ha.1
    obtain ⟨i1, i2⟩ := mg_get (by omega) ha.2 hr
    have hn : ∀ x ∈ s, (p x).toNat ≠ (p w).toNat := fun x hx => by have := asc_gt ha.2 x hx; omega
    refine ⟨fun x hx => ?_, fun i hi => ?_⟩
    · rcases List.mem_cons.1 hx with rfl | hx
      · refine ⟨v, hv, ?_⟩
        rw [i2 _ hn, setPad_getD, if_pos rfl]
      · exact i1 x hx
    · rw [i2 i (fun x hx => hi x (List.mem_cons_of_mem _ hx)), setPad_getD, if_neg (fun e => hi w List.mem_cons_self e.symm)]
end

theorem words_inj {ta tb : List Int} {ws : List WEdit} {ra rb : List Int} (hw : wordsOk (-1) ws = true) (ia : ∀ x ∈ ta, isW x) (ib : ∀ x ∈ tb, isW x) (ha : wsD ta ws ta = some ra) (hb : wsD tb ws tb = some rb) (h : EqvW ra rb) : EqvW ta tb := by
  rw [wsD_mg] at ha hb
  obtain ⟨a1, a2⟩ := mg_get (by omega) (words_asc hw) ha
  obtain ⟨b1, b2⟩ := mg_get (by omega) (words_asc hw) hb
  have wi : ∀ (l : List Int), (∀ x ∈ l, isW x) → ∀ i : Nat, isW (l.getD i 0) := fun l hl i => by
    by_cases hi : i < l.length
    · exact hl _ (mem_getD hi _)
    · rw [List.getD_eq_getElem?_getD, List.getElem?_eq_none (by omega)]; show 0 ≤ (0 : Int) ∧ (0 : Int) < _; omega
  intro i
  by_cases hi : ∃ w ∈ ws, w.at_.toNat = i
  · obtain ⟨w, hw, rfl⟩ := hi
    obtain ⟨v, hv, hr⟩ := a1 w hw
    obtain ⟨v', hv', hr'⟩ := b1 w hw
    split at hv
    · rename_i c
      split at hv'
      · rename_i c'
        cases hv; cases hv'
        exact mix_inj (wi _ ia _) (wi _ ib _) (by rw [← hr, ← hr']; exact h _) (by rw [c, c'])
      · cases hv'
    · cases hv
  · have hi : ∀ w ∈ ws, w.at_.toNat ≠ i := fun w hw e => hi ⟨w, hw, e⟩
    rw [← a2 i hi, ← b2 i hi]
    exact h i

theorem rightK_mem {list d : Int} : ∀ {l : List Tree}, rightK list l d = true → ∀ t ∈ l, rightT t d = true
  | [], _, _, ht => by cases ht
  | a :: r, h, t, ht => by
    simp only [rightK, Bool.and_eq_true] at h
    rcases List.mem_cons.1 ht with rfl | ht
    · exact h.1.2
    · exact rightK_mem h.2 t ht
def RT_ (t : Tree) : Prop := (∃ d, rightT t d = true) ∧ rng t
theorem RT_.kids {t : Tree} (h : RT_ t) : (∀ k ∈ t.kids, RT_ k) ∧ (t.kind ≠ 0 → t.kind ≠ 1 → t.kind ≠ 10 → t.words = []) := by
  obtain ⟨⟨d, h⟩, hr⟩ := h
  obtain ⟨k, w, ks⟩ := t
  have hk : ∀ x ∈ ks, rng x := fun x hx => rngK_mem hr.2.2 hx
  show (∀ x ∈ ks, RT_ x) ∧ (k ≠ 0 → k ≠ 1 → k ≠ 10 → w = [])
  rw [rightT] at h
  split at h
  · simp only [decide_eq_true_eq] at h
    rw [List.eq_nil_of_length_eq_zero h.2]
    exact ⟨fun x hx => (by cases hx), fun h0 => absurd ‹_› h0⟩
  · split at h
    · simp only [decide_eq_true_eq] at h
      rw [List.eq_nil_of_length_eq_zero h.2]
      exact ⟨fun x hx => (by cases hx), fun _ _ h0 => absurd ‹_› h0⟩
    · split at h
      · cases h
      · split at h
        · simp only [Bool.and_eq_true] at h
          exact ⟨fun x hx => ⟨⟨_, rightK_mem h.2 x hx⟩, hk x hx⟩, fun _ h1 => absurd ‹_› h1⟩
        · simp only [Bool.and_eq_true, decide_eq_true_eq] at h
          exact ⟨fun x hx => ⟨⟨_, rightK_mem h.2 x hx⟩, hk x hx⟩, fun _ _ _ => List.eq_nil_of_length_eq_zero h.1.2.2.1⟩
theorem RT_nil : RT_ Tree.nil := ⟨⟨1, rfl⟩, rng_nilT'⟩
theorem RT_get {l : List Tree} (h : ∀ t ∈ l, RT_ t) (i : Nat) : RT_ (l.getD i Tree.nil) := by
  by_cases hi : i < l.length
  · exact h _ (mem_getD hi _)
  · rw [List.getD_eq_getElem?_getD, List.getElem?_eq_none (by omega)]; exact RT_nil

theorem rng_at' {t : Tree} (h : rng t) : isI t.kind ∧ (∀ x ∈ t.words, isW x) ∧ rngK t.kids := by obtain ⟨k, w, ks⟩ := t; exact h
theorem rightOp_facts' {list : Int} {o : Op} {d : Int} (h : rightOp list o d = true) : o.kind = 0 ∨ o.kind = 1 ∨ o.kind = 2 ∨ o.kind = 3 := by
  have r := rightOp_all h
  cases r with
  | keep => exact .inl rfl
  | gone => exact .inr (.inl rfl)
  | come => exact .inr (.inr (.inl rfl))
  | into => exact .inr (.inr (.inr rfl))
theorem norms_split {a b c d : List Tree} (hl : a.length = b.length) (h : normsT (a ++ c) = normsT (b ++ d)) : normsT a = normsT b ∧ normsT c = normsT d := by
  rw [normsT_append, normsT_append] at h
  exact List.append_inj h (by simp [normsT, hl])
theorem norms_join {n : Nat} {a b : List Tree} (h1 : normsT (a.take n) = normsT (b.take n)) (h2 : normsT (a.drop n) = normsT (b.drop n)) : normsT a = normsT b := by
  rw [← List.take_append_drop n a, ← List.take_append_drop n b, normsT_append, normsT_append, h1, h2]
theorem goneD_true {l rest : List Tree} (h : goneD l rest = true) : l.length ≤ rest.length ∧ normsT l = normsT (rest.take l.length) := by
  unfold goneD at h
  simp only [Bool.and_eq_true, decide_eq_true_eq] at h
  exact ⟨h.1, eqX_iff.1 h.2⟩

mutual
theorem do_inj : ∀ (e : Edit) (d : Int) (a b u v : Tree), rightE e d = true → RT_ a → RT_ b → doE false e a = some u → doE false e b = some v → Eqv u v → Eqv a b
  | .mk k o n w ks l os, d, a, b, u, v, hr, ra, rb, ha, hb, h => by
    have i1 := kids_inj ks
    have i2 := ops_inj os
    have ri := rightE_all hr
    obtain ⟨ka, wa⟩ := ra.kids
    obtain ⟨kb, wb⟩ := rb.kids
    have na := rng_at' ra.2
    have nb := rng_at' rb.2
    rw [doE_raw, nrD_false] at ha hb
    unfold rawE at ha hb
    split at ha
    · rename_i c
      rw [if_pos c] at hb
      cases ha; cases hb; exact h
    · rename_i c0
      rw [if_neg c0] at hb
      split at ha
      · rename_i c
        rw [if_pos c] at hb
        split at ha
        · rename_i x
          split at hb
          · rename_i y
            rw [sameT_true] at x y
            exact x.symm.trans y
          · cases hb
        · cases ha
      · rename_i c1
        rw [if_neg c1] at hb
        split at ha
        · rename_i c
          rw [if_pos c] at hb
          split at ha
          · rename_i x
            split at hb
            · rename_i y
              obtain ⟨wa', hwa, ha1⟩ := Option.bind_eq_some_iff.1 ha
              obtain ⟨wb', hwb, hb1⟩ := Option.bind_eq_some_iff.1 hb
              obtain ⟨sa, hsa, eu⟩ := Option.map_eq_some_iff.1 ha1
              obtain ⟨sb, hsb, ev⟩ := Option.map_eq_some_iff.1 hb1
              subst eu ev
              obtain ⟨h1, h2⟩ := (eqv_struct rfl rfl).1 h
              exact (eqv_struct x y).2 ⟨words_inj ri.words na.2.1 nb.2.1 hwa hwb h1, i1 _ a.kids b.kids sa sb ri.kids ka kb hsa hsb h2⟩
            · cases hb
          · cases ha
        · rename_i c2
          rw [if_neg c2] at hb
          split at ha
          · rename_i c
            rw [if_pos c] at hb
            split at ha
            · rename_i x
              split at hb
              · rename_i y
                obtain ⟨xa, hxa, ea⟩ := Option.map_eq_some_iff.1 ha
                obtain ⟨xb, hxb, eb⟩ := Option.map_eq_some_iff.1 hb
                subst ea eb
                have hl := ri.list c
                unfold endD at hxa hxb
                obtain ⟨pa, hpa, hya⟩ := Option.bind_eq_some_iff.1 hxa
                obtain ⟨pb, hpb, hyb⟩ := Option.bind_eq_some_iff.1 hxb
                split at hya
                · rename_i za
                  split at hyb
                  · rename_i zb
                    cases hya; cases hyb
                    have hab : normsT pa.1 = normsT pb.1 := ((eqv_list (a := .mk _ [] pa.1) (b := .mk _ [] pb.1) (by show (Edit.mk k o n w ks l os).list ≠ 0; omega) (by show (Edit.mk k o n w ks l os).list ≠ 1; omega)).1 h).2.2
                    have := i2 _ a.kids b.kids [] [] pa pb (fun o ho => ⟨_, Go.AM.rightOs_mem ri.ops o ho⟩) ka kb rfl hpa hpb hab (by rw [List.eq_nil_of_length_eq_zero za, List.eq_nil_of_length_eq_zero zb])
                    exact (eqv_list (by omega) (by omega)).2 ⟨by rw [x, y], by rw [wa (by omega) (by omega) (by omega), wb (by omega) (by omega) (by omega)], this.2⟩
                  · cases hyb
                · cases hya
              · cases hb
            · cases ha
          · cases ha
theorem kids_inj : ∀ (ks : List (KidOf Edit)) (d : Int) (ta tb ra rb : List Tree), rightKs (-1) ks d = true → (∀ t ∈ ta, RT_ t) → (∀ t ∈ tb, RT_ t) → doKs false ta ks ta = some ra → doKs false tb ks tb = some rb → EqvS ra rb → EqvS ta tb
  | ks, d, ta, tb, ra, rb, hk, wa, wb, ha, hb, h => by
    have each := kid_inj ks
    rw [doKs_mg] at ha hb
    obtain ⟨a1, a2⟩ := mg_get (by omega) (kids_asc hk) ha
    obtain ⟨b1, b2⟩ := mg_get (by omega) (kids_asc hk) hb
    intro i
    by_cases hi : ∃ k ∈ ks, k.at_.toNat = i
    · obtain ⟨k, hk', rfl⟩ := hi
      obtain ⟨u, hu, hr⟩ := a1 k hk'
      obtain ⟨v, hv, hr'⟩ := b1 k hk'
      rw [doKid_at] at hu hv
      refine each k hk' d _ _ u v (rightKs_all hk k hk').2 (RT_get wa _) (RT_get wb _) hu hv ?_
      rw [← hr, ← hr']
      exact h _
    · have hi : ∀ k ∈ ks, k.at_.toNat ≠ i := fun k hk e => hi ⟨k, hk, e⟩
      rw [← a2 i hi, ← b2 i hi]
      exact h i
theorem kid_inj : ∀ (ks : List (KidOf Edit)), ∀ k ∈ ks, ∀ (d : Int) (a b u v : Tree), rightE k.e d = true → RT_ a → RT_ b → doE false k.e a = some u → doE false k.e b = some v → Eqv u v → Eqv a b
  | [], k, hk => by cases hk
  | ⟨p, e⟩ :: r, k, hk => by
    have h1 := do_inj e
    have h2 := kid_inj r
    rcases List.mem_cons.1 hk with rfl | hk
    · exact h1
    · exact h2 k hk
theorem ops_inj : ∀ (os : List (OpOf Edit)) (d : Int) (ta tb oa ob : List Tree) (xa xb : List Tree × List Tree), (∀ o ∈ os, ∃ l, rightOp l o d = true) → (∀ t ∈ ta, RT_ t) → (∀ t ∈ tb, RT_ t) → oa.length = ob.length → doOs false os ta oa = some xa → doOs false os tb ob = some xb → normsT xa.1 = normsT xb.1 → normsT xa.2 = normsT xb.2 → normsT oa = normsT ob ∧ normsT ta = normsT tb
  | [], d, ta, tb, oa, ob, xa, xb, _, _, _, _, ha, hb, h1, h2 => by rw [doOs] at ha hb; cases ha; cases hb; exact ⟨h1, h2⟩
  | o :: r, d, ta, tb, oa, ob, xa, xb, hr, wa, wb, hl, ha, hb, h1, h2 => by
    rw [doOs] at ha hb
    obtain ⟨ya, hya, ha⟩ := Option.bind_eq_some_iff.1 ha
    obtain ⟨yb, hyb, hb⟩ := Option.bind_eq_some_iff.1 hb
    have step := op_inj o d ta tb oa ob ya yb (hr o List.mem_cons_self) wa wb hl hya hyb
    have := ops_inj r d ya.2 yb.2 ya.1 yb.1 xa xb (fun q hq => hr q (List.mem_cons_of_mem _ hq)) step.1 step.2.1 step.2.2.1 ha hb h1 h2
    exact step.2.2.2 this.1 this.2
theorem op_inj : ∀ (o : OpOf Edit) (d : Int) (ta tb oa ob : List Tree) (ya yb : List Tree × List Tree), (∃ l, rightOp l o d = true) → (∀ t ∈ ta, RT_ t) → (∀ t ∈ tb, RT_ t) → oa.length = ob.length → doOp false o ta oa = some ya → doOp false o tb ob = some yb →
    (∀ t ∈ ya.2, RT_ t) ∧ (∀ t ∈ yb.2, RT_ t) ∧ ya.1.length = yb.1.length ∧ (normsT ya.1 = normsT yb.1 → normsT ya.2 = normsT yb.2 → normsT oa = normsT ob ∧ normsT ta = normsT tb)
  | ⟨k, n, l, e⟩, d, ta, tb, oa, ob, ya, yb, ⟨li, hr⟩, wa, wb, hl, ha, hb => by
    have ie := do_inj e d (ta.getD 0 Tree.nil) (tb.getD 0 Tree.nil)
    have da : ∀ n, ∀ t ∈ ta.drop n, RT_ t := fun n t ht => wa t (List.mem_of_mem_drop ht)
    have db : ∀ n, ∀ t ∈ tb.drop n, RT_ t := fun n t ht => wb t (List.mem_of_mem_drop ht)
    rw [doOp] at ha hb
    split at ha
    · rename_i c
      rw [if_pos c] at hb
      split at ha
      · split at hb
        · cases ha; cases hb
          refine ⟨da _, db _, by simp only [List.length_append, List.length_take]; omega, fun h1 h2 => ?_⟩
          obtain ⟨h3, h4⟩ := norms_split hl h1
          exact ⟨h3, norms_join h4 h2⟩
        · cases hb
      · cases ha
    · rename_i c0
      rw [if_neg c0] at hb
      split at ha
      · rename_i c
        rw [if_pos c] at hb
        split at ha
        · rename_i x
          split at hb
          · rename_i y
            cases ha; cases hb
            exact ⟨da _, db _, hl, fun h1 h2 => ⟨h1, norms_join ((goneD_true x).2.symm.trans (goneD_true y).2) h2⟩⟩
          · cases hb
        · cases ha
      · rename_i c1
        rw [if_neg c1] at hb
        split at ha
        · rename_i c
          rw [if_pos c] at hb
          cases ha; cases hb
          exact ⟨wa, wb, by simp only [List.length_append]; omega, fun h1 h2 => ⟨(norms_split hl h1).1, h2⟩⟩
        · rename_i c2
          rw [if_neg c2] at hb
          split at ha
          · cases ha
          · rename_i za
            split at hb
            · cases hb
            · rename_i zb
              obtain ⟨u, hu, ea⟩ := Option.map_eq_some_iff.1 ha
              obtain ⟨v, hv, eb⟩ := Option.map_eq_some_iff.1 hb
              subst ea eb
              refine ⟨da _, db _, by simp only [List.length_append, List.length_singleton]; omega, fun h1 h2 => ?_⟩
              obtain ⟨h3, h4⟩ := norms_split hl h1
              have hk : k = 3 := by
                rcases rightOp_facts' hr with h | h | h | h <;> first | exact absurd h c0 | exact absurd h c1 | exact absurd h c2 | exact h
              have := ie u v (right_desc hr hk) (RT_get wa 0) (RT_get wb 0) hu hv (norms_one.1 h4)
              refine ⟨h3, norms_join (n := 1) ?_ h2⟩
              cases ta with
              | nil => exact absurd rfl za
              | cons x s => cases tb with
                | nil => exact absurd rfl zb
                | cons y s' => exact norms_one.2 this
end

end Go.AM.Ytlahjnelghpmeaa

namespace Go.AM.Ytlahjnelghpmeaa
open Go.AM Go.Proofs

theorem goodT_in {t : Tree} (h : goodT t = true) (hr : rng t) : mass t ≤ 1000000 ∧ RT_ t ∧ rightT t 64 = true ∧ t.kind ≠ 10 := by
  unfold goodT at h
  simp only [Bool.and_eq_true, decide_eq_true_eq] at h
  exact ⟨few_mass' h.1.1, ⟨⟨64, h.1.2⟩, hr⟩, h.1.2, h.2⟩

theorem c50 : Contract Try.prog cfg 50 spec50 := by
  refine make50 c29 c47 ?_
  intro t _ hp
  simp only [pre50] at hp
  refine vc50 _ _ ?_
  (simp only [Tree.eta, Edit.eta, Tree.kind_mk, Tree.words_mk, Tree.kids_mk])
  (simp only [vcT, bif_tl, bif_fr, bif_tlf, bif_frf, Bool.not_eq_true', Bool.not_eq_false', decide_eq_true_eq, decide_eq_false_iff_not, beq_iff_eq, beq_eq_false_iff_ne, bne_iff_ne, ne_eq, bne_eq_false_iff_eq, Bool.or_eq_true, Bool.and_eq_true, Bool.or_eq_false_iff, Bool.and_eq_false_imp])
  refine ⟨by simp only [pre29]; exact hp.1, fun h => by simp only [pre47]; exact ⟨few_mass' h, hp.2, by omega, by omega⟩, ends_bool rfl ?_⟩
  unfold goodT
  rw [Bool.eq_iff_iff]
  simp only [bif_fr, Bool.and_eq_true, decide_eq_true_eq, bne_iff_ne]

theorem c51 : Contract Try.prog cfg 51 spec51 := by
  refine make51 c52 ?_
  intro _ _
  refine vc51 _ ?_
  rintro y1 hy1 y2 hy2
  have e1 : doE false y1 (.mk 1 [5] []) = some (.mk 1 [6] []) := by rw [hy1]; rfl
  have e2 : doE false y1 (.mk 1 [7] []) = none := by rw [hy1]; rfl
  have hr : rightE y1 64 = true := by rw [hy1]; rfl
  have hm : massE y1 ≤ 1000000 := by rw [hy1]; decide
  have hn : rngE y1 := by
    rw [hy1]
    simp only [rngE, rngKs, rngOs]
    have z := rng_nilT
    refine ⟨by unfold isI; omega, z, z, ?_, by unfold isI; omega, trivial, trivial⟩
    intro x hx
    simp only [List.mem_singleton] at hx
    subst hx
    exact ⟨by unfold isI; decide, by decide, by unfold isW; decide, by unfold isW; decide⟩
  have hp : ∀ x : Int, 0 ≤ x ∧ x < 1000 → pre52 (y1, .mk 1 [x] [], ()) := by
    intro x hx
    simp only [pre52]
    refine ⟨⟨hm, hn, 64, hr⟩, by simp [mass, massK], ⟨by decide, ?_, trivial⟩⟩
    intro y hy
    simp only [List.mem_singleton] at hy
    omega
  rw [e1] at hy2
  rw [e1, e2]
  rw [show y2 = [6] by rw [hy2]; rfl]
  exact ⟨hp 5 (by omega), hp 7 (by omega), fun x => x, fun x => x, fun x => x, fun x => x, fun x => x, fun x => x, fun x => x, fun x => x, fun _ => by simp, fun x => x, fun x => x, fun x => x, ends_bool rfl rfl⟩

theorem good_in' {e : Edit} (h : good e = true) : massE e ≤ 3000 ∧ rightE e 64 = true := by
  simp only [good, Bool.and_eq_true, decide_eq_true_eq] at h
  exact ⟨few_massE h.1.1, h.1.2⟩
theorem pre52_of {e : Edit} {t : Tree} (hg : good e = true) (he : rngE e) (ht : mass t ≤ 1000000) (hr : rng t) : (massE e ≤ 1000000 ∧ rngE e ∧ ∃ d, rightE e d = true) ∧ mass t ≤ 100000000000 ∧ rng t := by
  obtain ⟨hm, hx⟩ := good_in' hg
  exact ⟨⟨by omega, he, 64, hx⟩, by omega, hr⟩
theorem orNil_mass {r : Bool} {e : Edit} {t : Tree} (he : massE e ≤ 1000000) (hr : ∃ d, rightE e d = true) (ht : mass t ≤ 100000000000) : mass (orNil (doE r e t)) ≤ 1000000000000 := by
  cases h : doE r e t with
  | none => simp [orNil, Tree.nil, mass, massK]
  | some u => exact doE_mass he hr ht h
theorem orNil_norm (o : Option Tree) : orNil (o.map normT) = normT (orNil o) := by cases o; exact normT_nil.symm; rfl
theorem c14 : Contract Try.prog cfg 14 spec14 := by
  refine make14 c36 c37 c50 c51 c52 ?_
  intro e a b _ hp
  simp only [pre14] at hp
  refine vc14 _ _ _ _ ?_
  rintro y1 hy1 y2 hy2 y3 hy3 y4 hy4 y5 hy5
  subst hy1 hy2 hy3
  (simp only [vcT, bif_tl, bif_fr, bif_tlf, bif_frf, Bool.not_eq_true', Bool.not_eq_false', decide_eq_true_eq, decide_eq_false_iff_not, beq_iff_eq, beq_eq_false_iff_ne, bne_iff_ne, ne_eq, bne_eq_false_iff_eq, Bool.or_eq_true, Bool.and_eq_true, Bool.or_eq_false_iff, Bool.and_eq_false_imp])
  refine ⟨by simp only [pre50]; exact hp.1.2, fun _ => by simp only [pre50]; exact hp.2, fun _ => by simp only [pre37]; exact hp.1.1, fun _ => ⟨trivial, ends_bool rfl rfl⟩, fun hg => ?_⟩
  obtain ⟨⟨g1, g2⟩, g3⟩ := hg
  obtain ⟨m2, r2, _⟩ := goodT_in g1 hp.1.2.2
  obtain ⟨m3, r3, _⟩ := goodT_in g2 hp.2.2
  have P2 := pre52_of g3 hp.1.1.2 m2 hp.1.2.2
  have P3 := pre52_of g3 hp.1.1.2 m3 hp.2.2
  obtain ⟨d, hr⟩ := P2.1.2.2
  have n4 : mass y4 ≤ 1000000000000 := by rw [hy4, orNil_norm]; exact Nat.le_trans (normT_mass _) (orNil_mass P2.1.1 P2.1.2.2 P2.2.1)
  have n5 : mass y5 ≤ 1000000000000 := by rw [hy5, orNil_norm]; exact Nat.le_trans (normT_mass _) (orNil_mass P2.1.1 P2.1.2.2 P3.2.1)
  refine ⟨by simp only [pre52]; exact P2, by simp only [pre52]; exact P3, fun _ => by simp only [pre36]; exact ⟨n4, n5⟩, fun _ => by simp only [pre36]; omega, fun _ => trivial, ends_bool rfl ?_⟩
  have inj := do_inj y1 d y2 y3
  have eqv := doE_eqv y1 d y2 y3 hr
  cases h2 : doE false y1 y2 with
  | none => rfl
  | some u =>
    cases h3 : doE false y1 y3 with
    | none => rfl
    | some v =>
      have e4 : normT y4 = normT u := by rw [hy4, h2]; exact normT_idem u
      have e5 : normT y5 = normT v := by rw [hy5, h3]; exact normT_idem v
      have e : sameT (normT y4) (normT y5) = sameT (normT y2) (normT y3) := by
        rw [e4, e5, Bool.eq_iff_iff, sameT_true, sameT_true]
        refine ⟨fun h => inj u v hr r2 r3 h2 h3 h, fun h => ?_⟩
        have := eqv h
        rw [h2, h3] at this
        exact this
      rw [e]
      simp

end Go.AM.Ytlahjnelghpmeaa
