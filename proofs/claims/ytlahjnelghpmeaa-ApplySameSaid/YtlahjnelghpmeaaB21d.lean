import Derived.Test.YtlahjnelghpmeaaG21b
set_option linter.unusedSimpArgs false
set_option linter.unusedVariables false
namespace Go.AM.Ytlahjnelghpmeaa
open Go.AM Go.Proofs

theorem c1071 : Contract Try.prog cfg 71 spec1071 := by
  refine make1071 ?_
  intro l _ hp
  simp only [pre1071] at hp
  refine vc1071 _ _ ⟨fun h => ?_, fun _ => ⟨by simp only [List.length_nil]; omega, ?_⟩⟩
  · subst h
    simp only [resL1071]
    (repeat' (first | exact trivial | exact rfl | refine And.intro ?_ ?_))
  · simp only [resL1071]
    (repeat' (first | exact trivial | exact rfl | refine And.intro ?_ ?_))

theorem c126 : Contract Try.prog cfg 126 spec126 := by
  refine make126 ?_
  intro l _ hp
  simp only [pre126] at hp
  refine vc126 _ _ ⟨fun h => ?_, fun _ => ⟨by simp only [List.length_nil]; omega, ?_⟩⟩
  · subst h
    simp only [resL126]
    (repeat' (first | exact trivial | exact rfl | refine And.intro ?_ ?_))
  · simp only [resL126]
    (repeat' (first | exact trivial | exact rfl | refine And.intro ?_ ?_))

theorem setPad_in {α : Type} (z : α) {l : List α} {i : Nat} (h : i < l.length) (x : α) : setPad z l i x = l.set i x := by
  simp only [setPad]; rw [show i + 1 - l.length = 0 by omega]; simp
theorem setPad_snoc {α : Type} (z : α) {l : List α} {i : Nat} (h : l.length ≤ i) (x : α) : setPad z (l ++ [z]) i x = setPad z l i x := by
  simp only [setPad, List.length_append, List.length_singleton, List.append_assoc]
  rw [show i + 1 - l.length = (i + 1 - (l.length + 1)) + 1 by omega, List.replicate_succ]
  rfl
theorem massKT (t : Tree) : t.words.length + massK t.kids + 1 = mass t := by obtain ⟨k, w, ks⟩ := t; simp only [mass, Tree.words_mk, Tree.kids_mk]; omega
theorem rng_at {t : Tree} (h : rng t) : isI t.kind ∧ (∀ x ∈ t.words, isW x) ∧ rngK t.kids := by obtain ⟨k, w, ks⟩ := t; exact h
theorem rng_kid {ks : List Tree} (h : rngK ks) (i : Nat) : rng (ks.getD i Tree.nil) := by
  by_cases hi : i < ks.length
  · exact rngK_mem h (mem_getD hi _)
  · rw [List.getD_eq_getElem?_getD, List.getElem?_eq_none (by omega)]
    refine ⟨by decide, by simp [Tree.nil], trivial⟩
theorem mass_kid (ks : List Tree) (i : Nat) : mass (ks.getD i Tree.nil) ≤ massK ks + 1 := by
  by_cases hi : i < ks.length
  · have := massK_mem (mem_getD hi Tree.nil); omega
  · rw [List.getD_eq_getElem?_getD, List.getElem?_eq_none (by omega)]
    simp [Tree.nil, mass, massK]
theorem kidAt_pos (t : Tree) {i : Int} (h : 0 ≤ i) : kidAt t i = t.kids.getD i.toNat Tree.nil := by unfold kidAt; rw [if_neg (by omega)]
theorem wordAt_pos (t : Tree) {i : Int} (h : 0 ≤ i) : wordAt t i = t.words.getD i.toNat 0 := by unfold wordAt; rw [if_neg (by omega)]
theorem word_in {l : List Int} (h : ∀ x ∈ l, isW x) (i : Nat) : isW (l.getD i 0) := by
  by_cases hi : i < l.length
  · exact h _ (mem_getD hi _)
  · rw [List.getD_eq_getElem?_getD, List.getElem?_eq_none (by omega)]; show 0 ≤ (0 : Int) ∧ (0 : Int) < _; omega

theorem b82 : HB82 := by
  intro N e t _ hp hN
  simp only [pre82, mu82] at hp hN
  obtain ⟨⟨p1, p2, d, p3⟩, p4, p5⟩ := hp
  have h1 := len_massE e
  have h2 := rngE_at p2
  have hd := doE_at false e t
  rw [nrD_false] at hd
  refine vc82 _ _ _ _ ?_
  rintro y1 hy1 y2 hy2 y3 hy3
  subst hy1 hy2 hy3
  (simp only [vcT, bif_tl, bif_fr, bif_tlf, bif_frf, Bool.not_eq_true', Bool.not_eq_false', decide_eq_true_eq, decide_eq_false_iff_not, beq_iff_eq, beq_eq_false_iff_ne, bne_iff_ne, ne_eq, bne_eq_false_iff_eq, Bool.or_eq_true, Bool.and_eq_true, Bool.or_eq_false_iff, Bool.and_eq_false_imp])
  refine ⟨fun hk => ?_, fun hk => ⟨fun hk1 => ⟨by simp only [pre34]; omega, ?_⟩, fun hk1 => ⟨fun hk2 => ⟨by simp only [pre113]; exact ⟨hk2, ⟨p1, p2, d, p3⟩, p4, p5⟩, by simp only [mu113]; omega, ?_⟩, fun hk2 => ⟨fun hk3 => ⟨by simp only [pre114]; exact ⟨hk3, ⟨p1, p2, d, p3⟩, p4, p5⟩, by simp only [mu114]; omega, ?_⟩, fun hk3 => ?_⟩⟩⟩⟩
  · rw [if_pos hk] at hd
    simp only [res82, oneT, if_pos hk, hd]
    (repeat' (first | exact trivial | exact rfl | refine And.intro ?_ ?_))
  · rw [if_neg hk, if_pos hk1] at hd
    simp only [res82, oneT, if_neg hk, if_pos hk1, hd]
    cases sameT (normT y1.old) (normT y2) <;> (repeat' (first | exact trivial | exact rfl | refine And.intro ?_ ?_))
  · rw [if_neg hk, if_neg hk1, if_pos hk2] at hd
    simp only [res82, oneT, if_neg hk, if_neg hk1, if_pos hk2, hd]
    (repeat' (first | exact trivial | exact rfl | refine And.intro ?_ ?_))
  · rw [if_neg hk, if_neg hk1, if_neg hk2, if_pos hk3] at hd
    simp only [res82, oneT, if_neg hk, if_neg hk1, if_neg hk2, if_pos hk3, hd]
    have e2 : (if y2.kind = y1.list then (endD (doOs false y1.ops y2.kids [])).map fun b => Tree.mk y1.list [] b else none).isSome = (endD (lstD false y1 y2)).isSome := by
      unfold lstD
      split
      · cases endD (doOs false y1.ops y2.kids []) <;> rfl
      · rfl
    rw [e2]
    (repeat' (first | exact trivial | exact rfl | refine And.intro ?_ ?_))
  · rw [if_neg hk, if_neg hk1, if_neg hk2, if_neg hk3] at hd
    simp only [res82, oneT, if_neg hk, if_neg hk1, if_neg hk2, if_neg hk3, hd]
    (repeat' (first | exact trivial | exact rfl | refine And.intro ?_ ?_))

theorem b113 : HB113 := by
  intro N e t _ hp hN
  simp only [pre113, mu113] at hp hN
  obtain ⟨k2, ⟨p1, p2, d, p3⟩, p4, p5⟩ := hp
  have h1 := len_massE e
  have h2 := massKs_len e.kids
  have h3 := massKT t
  have h4 := massK_len t.kids
  have r2 := rngE_at p2
  have rt := rng_at p5
  have ri := rightE_all p3
  refine vc113 _ _ _ _ ?_
  (simp only [vcT, bif_tl, bif_fr, bif_tlf, bif_frf, Bool.not_eq_true', Bool.not_eq_false', decide_eq_true_eq, decide_eq_false_iff_not, beq_iff_eq, beq_eq_false_iff_ne, bne_iff_ne, ne_eq, bne_eq_false_iff_eq, Bool.or_eq_true, Bool.and_eq_true, Bool.or_eq_false_iff, Bool.and_eq_false_imp])
  have no : strD false e t = none → EndsQ cfg Try.f113.ntmps Try.f113.results.toList (res113 (e, t, ())) [] .ret (⟨[(4, .ptr (.loc 4) 0), (5, .c (.bool false))], [((.loc 4), [.int .i64 0, .nils, .nils])], []⟩ : LSt U) := by
    intro hs
    simp only [res113, hs]
    (repeat' (first | exact trivial | exact rfl | refine And.intro ?_ ?_))
  refine ⟨fun hk => no (by unfold strD; rw [if_neg hk]), fun hk => ?_⟩
  have hk : t.kind = 1 := by simpa using hk
  refine ⟨by simp only [pre1071]; omega, by simp only [pre126]; omega, ?_⟩
  refine loop_rule (ι := Int × List Int) (fun s => head113_0 e t s.1 s.2) (fun s => 0 ≤ s.1 ∧ s.1 ≤ e.words.length ∧ wsD t.words (e.words.drop s.1.toNat) s.2 = wsD t.words e.words t.words ∧ s.2.length ≤ t.words.length + 65536) (fun s => ((e.words.length : Int) - s.1).toNat) (0, t.words) rfl ⟨by simp, by simp, by simp, by simp⟩ ?_
  rintro ⟨i, out⟩ ⟨f1, f2, f3, f4⟩
  dsimp only at f1 f2 f3 f4
  refine vc113_l0 _ _ _ _ _ _ _ ?_
  rintro y1 hy1 y2 hy2
  subst hy1
  (simp only [vcT, bif_tl, bif_fr, bif_tlf, bif_frf, Bool.not_eq_true', Bool.not_eq_false', decide_eq_true_eq, decide_eq_false_iff_not, beq_iff_eq, beq_eq_false_iff_ne, bne_iff_ne, ne_eq, bne_eq_false_iff_eq, Bool.or_eq_true, Bool.and_eq_true, Bool.or_eq_false_iff, Bool.and_eq_false_imp])
  refine ⟨fun hi => ?_, fun hi => ?_⟩
  · have hmem := mem_getD (l := e.words) (i := i.toNat) (by omega) (WEdit.mk 0 0 0 0)
    rw [dropI f1 hi (WEdit.mk 0 0 0 0), ← hy2] at f3
    rw [← hy2] at hmem
    have hw := wordsOk_all ri.words y2 hmem
    obtain ⟨g1, g2, g3, g4⟩ := r2.2.2.2.1 y2 hmem
    have hat : wordAt y1 y2.at_ = y1.words.getD y2.at_.toNat 0 := wordAt_pos y1 (by omega)
    have hwi := word_in rt.2.1 y2.at_.toNat
    rw [wsD] at f3
    rw [hat]
    unfold isW at g3 g4 hwi
    refine ⟨⟨f1, hi⟩, by simp only [pre73], by simp only [pre127]; omega, fun hne => no ?_, fun heq => ?_⟩
    · rw [if_neg hne] at f3
      unfold strD
      rw [if_pos hk, ← f3]
      rfl
    · have heq : mix 0 (y1.words.getD y2.at_.toNat 0) y2.mask = y2.old := by simpa using heq
      rw [if_pos heq] at f3
      refine loop_rule (ι := List Int) (fun s => head113_1 e y1 i s) (fun s => (∀ v, setPad 0 s y2.at_.toNat v = setPad 0 out y2.at_.toNat v) ∧ s.length ≤ y1.words.length + 65536) (fun s => (y2.at_ + 1 - s.length).toNat) out rfl ⟨fun v => rfl, f4⟩ ?_
      rintro s ⟨q1, q2⟩
      refine vc113_l1 _ _ _ _ _ _ _ _ ?_
      (simp only [Tree.eta, Edit.eta, Tree.kind_mk, Tree.words_mk, Tree.kids_mk])
      rw [← hy2, hat]
      (simp only [vcT, bif_tl, bif_fr, bif_tlf, bif_frf, Bool.not_eq_true', Bool.not_eq_false', decide_eq_true_eq, decide_eq_false_iff_not, beq_iff_eq, beq_eq_false_iff_ne, bne_iff_ne, ne_eq, bne_eq_false_iff_eq, Bool.or_eq_true, Bool.and_eq_true, Bool.or_eq_false_iff, Bool.and_eq_false_imp])
      refine ⟨fun hl => ⟨by simp; omega, s ++ [0], rfl, ⟨fun v => ?_, by simp; omega⟩, by simp; omega⟩, fun hl => ?_⟩
      · rw [setPad_snoc 0 (by omega), q1]
      · have hl : y2.at_ < s.length := by omega
        refine ⟨by simp only [pre127]; omega, by omega, by omega, by unfold InR; omega, (i + 1, s.set y2.at_.toNat (mix (y1.words.getD y2.at_.toNat 0) y2.new y2.mask)), rfl, ⟨by dsimp only; omega, by dsimp only; omega, ?_, by simp only [List.length_set]; omega⟩, by dsimp only; omega⟩
        dsimp only
        rw [← f3, ← setPad_in 0 (by omega), q1]
  · rw [List.drop_of_length_le (by omega), wsD] at f3
    refine loop_rule (ι := Int × List Tree) (fun s => head113_2 e y1 out s.1 s.2) (fun s => 0 ≤ s.1 ∧ s.1 ≤ e.kids.length ∧ doKs false y1.kids (e.kids.drop s.1.toNat) s.2 = doKs false y1.kids e.kids y1.kids ∧ s.2.length ≤ y1.kids.length + 65536) (fun s => ((e.kids.length : Int) - s.1).toNat) (0, y1.kids) rfl ⟨by simp, by simp, by simp, by simp⟩ ?_
    rintro ⟨j, ks⟩ ⟨e1, e2, e3, e4⟩
    dsimp only at e1 e2 e3 e4
    refine vc113_l2 _ _ _ _ _ _ _ _ ?_
    rintro y1 hy1 y2 hy2 y3 hy3 y4 hy4
    subst hy1
    (simp only [vcT, bif_tl, bif_fr, bif_tlf, bif_frf, Bool.not_eq_true', Bool.not_eq_false', decide_eq_true_eq, decide_eq_false_iff_not, beq_iff_eq, beq_eq_false_iff_ne, bne_iff_ne, ne_eq, bne_eq_false_iff_eq, Bool.or_eq_true, Bool.and_eq_true, Bool.or_eq_false_iff, Bool.and_eq_false_imp])
    refine ⟨fun hj => ?_, fun hj => ?_⟩
    · have hmem := mem_getD (l := e.kids) (i := j.toNat) (by omega) (KidOf.mk 0 Edit.nil)
      rw [dropI e1 hj (KidOf.mk 0 Edit.nil), ← hy2] at e3
      rw [← hy2] at hmem
      have hk2 := rightKs_all ri.kids y2 hmem
      have hm := massKs_mem hmem
      have hr := (rngKs_mem r2.2.2.2.2.2.1 hmem).2
      have hat : kidAt y1 y2.at_ = y1.kids.getD y2.at_.toNat Tree.nil := kidAt_pos y1 (by omega)
      rw [hat] at hy4
      have hm4 := mass_kid y1.kids y2.at_.toNat
      have hr4 := rng_kid rt.2.2 y2.at_.toNat
      rw [doKs, doKid_at, ← hy4, ← hy3] at e3
      rw [← hy4] at hm4 hr4
      rw [← hy3] at hm hr hk2
      refine ⟨⟨e1, hj⟩, by simp only [pre74], by simp only [pre82]; exact ⟨⟨by omega, hr, _, hk2.2⟩, by omega, hr4⟩, by simp only [mu82]; omega, fun hne => no ?_, fun heq => ?_⟩
      · have hne : doE false y3 y4 = none := by simpa using hne
        rw [hne] at e3
        unfold strD
        rw [if_pos hk, ← f3, ← e3]
        rfl
      · obtain ⟨u, hu⟩ := Option.isSome_iff_exists.1 heq
        rw [hu, Option.bind_some] at e3
        refine loop_rule (ι := List Tree) (fun s => head113_3 e y1 out j s) (fun s => (∀ v, setPad Tree.nil s y2.at_.toNat v = setPad Tree.nil ks y2.at_.toNat v) ∧ s.length ≤ y1.kids.length + 65536) (fun s => (y2.at_ + 1 - s.length).toNat) ks rfl ⟨fun v => rfl, e4⟩ ?_
        rintro s ⟨q1, q2⟩
        refine vc113_l3 _ _ _ _ _ _ _ _ _ ?_
        rintro z1 hz1 z2 hz2 z3 hz3 z4 hz4 z5 hz5
        rw [← hy2] at hz2
        subst hz1 hz2
        rw [← hy3] at hz3
        subst hz3
        rw [hat, ← hy4] at hz4
        subst hz4
        rw [oneT_some hu] at hz5
        subst hz5
        (simp only [vcT, bif_tl, bif_fr, bif_tlf, bif_frf, Bool.not_eq_true', Bool.not_eq_false', decide_eq_true_eq, decide_eq_false_iff_not, beq_iff_eq, beq_eq_false_iff_ne, bne_iff_ne, ne_eq, bne_eq_false_iff_eq, Bool.or_eq_true, Bool.and_eq_true, Bool.or_eq_false_iff, Bool.and_eq_false_imp])
        refine ⟨fun hl => ⟨by simp; omega, s ++ [Tree.nil], rfl, ⟨fun v => ?_, by simp; omega⟩, by simp; omega⟩, fun hl => ?_⟩
        · rw [setPad_snoc Tree.nil (by omega), q1]
        · have hl : z2.at_ < s.length := by omega
          refine ⟨by omega, by omega, by unfold InR; omega, (j + 1, s.set z2.at_.toNat z5), rfl, ⟨by dsimp only; omega, by dsimp only; omega, ?_, by simp only [List.length_set]; omega⟩, by dsimp only; omega⟩
          dsimp only
          rw [← e3, ← setPad_in Tree.nil (by omega), q1]
    · rw [List.drop_of_length_le (by omega), doKs] at e3
      have hs : strD false e y1 = some (.mk 1 out ks) := by
        unfold strD
        rw [if_pos hk, ← f3, ← e3]
        rfl
      simp only [res113, hs]
      (repeat' (first | exact trivial | exact rfl | refine And.intro ?_ ?_))

theorem doOs_cons (r : Bool) (o : Op) (s : List Op) (rest out : List Tree) : doOs r (o :: s) rest out = (doOp r o rest out).bind fun x => doOs r s x.2 x.1 := by rw [doOs]
theorem rngK_drop {ks : List Tree} (h : rngK ks) (n : Nat) : rngK (ks.drop n) := by
  induction n generalizing ks with
  | zero => exact h
  | succ n ih => cases ks with
    | nil => exact h
    | cons a r => exact ih h.2
theorem b114 : HB114 := by
  intro N e t _ hp hN
  simp only [pre114, mu114] at hp hN
  obtain ⟨k3, ⟨p1, p2, d, p3⟩, p4, p5⟩ := hp
  have h1 := len_massE e
  have h2 := massOs_len e.ops
  have h3 := massKT t
  have h4 := massK_len t.kids
  have r2 := rngE_at p2
  have rt := rng_at p5
  have ri := rightE_all p3
  refine vc114 _ _ _ _ ?_
  (simp only [vcT, bif_tl, bif_fr, bif_tlf, bif_frf, Bool.not_eq_true', Bool.not_eq_false', decide_eq_true_eq, decide_eq_false_iff_not, beq_iff_eq, beq_eq_false_iff_ne, bne_iff_ne, ne_eq, bne_eq_false_iff_eq, Bool.or_eq_true, Bool.and_eq_true, Bool.or_eq_false_iff, Bool.and_eq_false_imp])
  have no : lstD false e t = none → EndsQ cfg Try.f114.ntmps Try.f114.results.toList (res114 (e, t, ())) [] .ret (⟨[(4, .ptr (.loc 4) 0), (5, .c (.bool false))], [((.loc 4), [.int .i64 0, .nils, .nils])], []⟩ : LSt U) := by
    intro hs
    simp only [res114, hs]
    (repeat' (first | exact trivial | exact rfl | refine And.intro ?_ ?_))
  refine ⟨fun hk => no (by unfold lstD; rw [if_neg hk]), fun hk => ?_⟩
  have hk : t.kind = e.list := by simpa using hk
  have hl0 : lstD false e t = doOs false e.ops t.kids [] := by unfold lstD; rw [if_pos hk]
  refine loop_rule (ι := Int × List Tree × List Tree) (fun s => head114_0 e t s.1 s.2.2 s.2.1)
    (fun s => 0 ≤ s.1 ∧ s.1 ≤ e.ops.length ∧ doOs false (e.ops.drop s.1.toNat) s.2.2 s.2.1 = lstD false e t ∧ s.2.1.length + s.2.2.length + massOs (e.ops.drop s.1.toNat) ≤ t.kids.length + massOs e.ops ∧ massK s.2.2 ≤ massK t.kids ∧ rngK s.2.2)
    (fun s => ((e.ops.length : Int) - s.1).toNat) (0, [], t.kids) rfl ⟨by simp, by simp, by simp [hl0], by simp, by simp, rt.2.2⟩ ?_
  rintro ⟨i, out, rest⟩ ⟨f1, f2, f3, f4, f5, f6⟩
  dsimp only at f1 f2 f3 f4 f5 f6
  refine vc114_l0 _ _ _ _ _ _ _ _ ?_
  rintro y1 hy1
  (simp only [vcT, bif_tl, bif_fr, bif_tlf, bif_frf, Bool.not_eq_true', Bool.not_eq_false', decide_eq_true_eq, decide_eq_false_iff_not, beq_iff_eq, beq_eq_false_iff_ne, bne_iff_ne, ne_eq, bne_eq_false_iff_eq, Bool.or_eq_true, Bool.and_eq_true, Bool.or_eq_false_iff, Bool.and_eq_false_imp])
  refine ⟨fun hi => ?_, fun hi => ?_⟩
  · have hmem := mem_getD (l := e.ops) (i := i.toNat) (by omega) Op.nil
    rw [dropI f1 hi Op.nil, ← hy1] at f3 f4
    rw [← hy1] at hmem
    have hr := Go.AM.rightOs_mem ri.ops y1 hmem
    have hm := massOs_mem hmem
    have hme := massOp_e y1
    have hro := rngOp_e (rngOs_mem r2.2.2.2.2.2.2 hmem)
    have hml := massK_len y1.l
    simp only [massOs] at f4
    rw [doOs_cons, doOp_at] at f3
    have go : ∀ (x : List Tree) (m : List Tree) (v : V U) N0 Q', doOs false (e.ops.drop (i + 1).toNat) x m = lstD false e t → m.length + x.length + massOs (e.ops.drop (i + 1).toNat) ≤ t.kids.length + massOs e.ops → massK x ≤ massK t.kids → rngK x →
        (∀ s2, s2 = head114_0 e t (i + 1) x m → N0 s2) → A114 N [1, 1, 1, 1, 0, 1, 0, 0, 1, 1, 1] (head114_1 e t i x m v) (AExit.then N0 (AExit.inBlock 0 (S114 N [1, 1, 1, 1, 1] Q'))) := by
      intro x m v N0 Q' a1 a2 a3 a4 a5
      exact vc114_c1 _ _ _ _ _ _ _ _ _ ⟨by unfold InR; omega, a5 _ rfl⟩
    have fin : ∀ (x m : List Tree), doOs false (e.ops.drop (i + 1).toNat) x m = lstD false e t → m.length + x.length + massOs (e.ops.drop (i + 1).toNat) ≤ t.kids.length + massOs e.ops → massK x ≤ massK t.kids → rngK x → ∀ s2, s2 = head114_0 e t (i + 1) x m →
        ∃ j : Int × List Tree × List Tree, s2 = head114_0 e t j.1 j.2.2 j.2.1 ∧ (0 ≤ j.1 ∧ j.1 ≤ e.ops.length ∧ doOs false (e.ops.drop j.1.toNat) j.2.2 j.2.1 = lstD false e t ∧ j.2.1.length + j.2.2.length + massOs (e.ops.drop j.1.toNat) ≤ t.kids.length + massOs e.ops ∧ massK j.2.2 ≤ massK t.kids ∧ rngK j.2.2) ∧ ((e.ops.length : Int) - j.1).toNat < ((e.ops.length : Int) - i).toNat := by
      rintro x m a1 a2 a3 a4 _ rfl
      exact ⟨(i + 1, m, x), rfl, ⟨by dsimp only; omega, by dsimp only; omega, a1, a2, a3, a4⟩, by dsimp only; omega⟩
    have r1 := rightOp_all hr
    have ht : ∀ n : Nat, (rest.take n).length ≤ rest.length ∧ (rest.take n).length + (rest.drop n).length = rest.length := by
      intro n
      simp only [List.length_take, List.length_drop]; omega
    refine ⟨⟨f1, hi⟩, fun hk2 => ⟨by omega, ?_⟩, fun hk2 => ⟨fun hk1 => ?_, fun hk1 => ⟨fun hk3 => ?_, fun hk3 => ?_⟩⟩⟩
    · rw [if_neg (by omega), if_neg (by omega), if_pos hk2, Option.bind_some] at f3
      exact go _ _ _ _ _ f3 (by simp only [List.length_append]; omega) f5 f6 (fin _ _ f3 (by simp only [List.length_append]; omega) f5 f6)
    · refine vc114_c2 _ _ _ _ _ _ _ _ _ _ ?_
      rintro z1 hz1 z2 hz2 z3 hz3 z4 hz4 z5 hz5 z6 hz6
      rw [← hy1] at hz1
      subst hz1
      rw [if_neg (by omega), if_pos hk1] at f3
      (simp only [vcT, bif_tl, bif_fr, bif_tlf, bif_frf, Bool.not_eq_true', Bool.not_eq_false', decide_eq_true_eq, decide_eq_false_iff_not, beq_iff_eq, beq_eq_false_iff_ne, bne_iff_ne, ne_eq, bne_eq_false_iff_eq, Bool.or_eq_true, Bool.and_eq_true, Bool.or_eq_false_iff, Bool.and_eq_false_imp])
      rw [Int.toNat_natCast] at hz5
      rw [Int.toNat_natCast]
      refine ⟨fun hs => no ?_, fun hs => ⟨by omega, by omega, fun h => by omega, fun _ => ⟨fun _ => ⟨?_, fun hq => no ?_, fun hq => ?_⟩, fun h => absurd hk1 h⟩⟩⟩
      · have : goneD z1.l rest = false := by unfold goneD; rw [decide_eq_false (by omega)]; rfl
        rw [this, if_neg (by simp)] at f3
        exact f3.symm
      · have := massK_take z1.l.length rest
        simp only [pre96]; omega
      · have : goneD z1.l rest = false := by unfold goneD; rw [← hz5, hq]; simp
        rw [this, if_neg (by simp)] at f3
        exact f3.symm
      · have : goneD z1.l rest = true := by unfold goneD; rw [← hz5, hq, decide_eq_true (by omega)]; rfl
        rw [this, if_pos rfl, Option.bind_some] at f3
        have hd := massK_drop z1.l.length rest
        have ht1 := ht z1.l.length
        exact go _ _ _ _ _ f3 (by omega) (by omega) (rngK_drop f6 _) (fin _ _ f3 (by omega) (by omega) (rngK_drop f6 _))
    · refine vc114_c2 _ _ _ _ _ _ _ _ _ _ ?_
      rintro z1 hz1 z2 hz2 z3 hz3 z4 hz4 z5 hz5 z6 hz6
      rw [← hy1] at hz1
      subst hz1
      rw [if_neg (by omega), if_neg hk1, if_neg hk2] at f3
      (simp only [vcT, bif_tl, bif_fr, bif_tlf, bif_frf, Bool.not_eq_true', Bool.not_eq_false', decide_eq_true_eq, decide_eq_false_iff_not, beq_iff_eq, beq_eq_false_iff_ne, bne_iff_ne, ne_eq, bne_eq_false_iff_eq, Bool.or_eq_true, Bool.and_eq_true, Bool.or_eq_false_iff, Bool.and_eq_false_imp])
      rw [show Int.toNat 1 = 1 from rfl]
      refine ⟨fun hs => no ?_, fun hs => ⟨by omega, by omega, fun h => by omega, fun _ => ⟨fun h => absurd h hk1, fun _ => ?_⟩⟩⟩
      · rw [if_pos (by omega)] at f3
        exact f3.symm
      · have hz : z3 = rest.getD 0 Tree.nil := by
          rw [hz3, hz2]
          cases rest with
          | nil => rfl
          | cons a r => rfl
        rw [if_neg (by omega), ← hz, ← hz4] at f3
        have hm3 := mass_kid rest 0
        have hr3 := rng_kid f6 0
        rw [← hz] at hm3 hr3
        have hre := right_desc hr hk3
        rw [← hz4] at hre hme hro
        refine ⟨?_, by simp only [pre82]; exact ⟨⟨by omega, hro.2.2.2, _, hre⟩, by omega, hr3⟩, by simp only [mu82]; omega, fun hne => no ?_, fun heq => ?_⟩
        · simp only [List.length_take]; omega
        · have hne : doE false z4 z3 = none := by simpa using hne
          rw [hne] at f3
          exact f3.symm
        · obtain ⟨u, hu⟩ := Option.isSome_iff_exists.1 heq
          rw [oneT_some hu] at hz6
          subst hz6
          rw [hu, Option.map_some, Option.bind_some] at f3
          have hd := massK_drop 1 rest
          have ht1 := ht 1
          have ht2 : (rest.take 1).length = 1 := by simp only [List.length_take]; omega
          refine ⟨by simp only [List.length_singleton]; omega, ?_⟩
          exact go _ _ _ _ _ f3 (by simp only [List.length_append, List.length_singleton]; omega) (by omega) (rngK_drop f6 _) (fin _ _ f3 (by simp only [List.length_append, List.length_singleton]; omega) (by omega) (rngK_drop f6 _))
    · have hk0 : y1.kind = 0 := by cases r1 <;> first | rfl | (exfalso; simp at hk1 hk2 hk3)
      refine vc114_c2 _ _ _ _ _ _ _ _ _ _ ?_
      rintro z1 hz1 z2 hz2 z3 hz3 z4 hz4 z5 hz5 z6 hz6
      rw [← hy1] at hz1
      subst hz1
      rw [if_pos hk0] at f3
      have hn : 1 ≤ z1.n ∧ z1.n ≤ 1048576 := by cases r1 <;> first | (constructor <;> assumption) | (exfalso; simp at hk1 hk2 hk3 hk0)
      (simp only [vcT, bif_tl, bif_fr, bif_tlf, bif_frf, Bool.not_eq_true', Bool.not_eq_false', decide_eq_true_eq, decide_eq_false_iff_not, beq_iff_eq, beq_eq_false_iff_ne, bne_iff_ne, ne_eq, bne_eq_false_iff_eq, Bool.or_eq_true, Bool.and_eq_true, Bool.or_eq_false_iff, Bool.and_eq_false_imp])
      refine ⟨fun hs => no ?_, fun hs => ⟨by omega, by omega, fun _ => ⟨?_, ?_⟩, fun h => absurd hk0 h⟩⟩
      · rw [if_neg (by omega)] at f3
        exact f3.symm
      · have := (ht z1.n.toNat).1
        omega
      · rw [if_pos (by omega), Option.bind_some] at f3
        have hd := massK_drop z1.n.toNat rest
        have ht1 := ht z1.n.toNat
        exact go _ _ _ _ _ f3 (by simp only [List.length_append]; omega) (by omega) (rngK_drop f6 _) (fin _ _ f3 (by simp only [List.length_append]; omega) (by omega) (rngK_drop f6 _))
  · rw [List.drop_of_length_le (by omega), doOs] at f3
    simp only [res114, ← f3, lstT, endD, Option.bind_some, hk]
    by_cases hr : rest.length = 0
    · rw [if_pos hr, hr]
      (repeat' (first | exact trivial | exact rfl | refine And.intro ?_ ?_))
    · rw [if_neg hr, show ((rest.length : Int) == 0) = false by rw [beq_eq_false_iff_ne]; omega]
      (repeat' (first | exact trivial | exact rfl | refine And.intro ?_ ?_))

theorem c82_ : Contract Try.prog cfg 82 spec82 ∧ Contract Try.prog cfg 113 spec113 ∧ Contract Try.prog cfg 114 spec114 := make82_ c34 c73 c74 c96 c126 c127 c1071 b82 b113 b114
theorem c82 : Contract Try.prog cfg 82 spec82 := c82_.1

end Go.AM.Ytlahjnelghpmeaa

namespace Go.AM.Ytlahjnelghpmeaa
open Go.AM Go.Proofs

def rOp (list : Int) (d : Int) (o : Op) : Prop := (o.kind = 0 → 1 ≤ o.n ∧ o.l.length = 0 ∧ sameE o.e = true) ∧ (o.kind ≠ 0 → rightOp list o d = true)


end Go.AM.Ytlahjnelghpmeaa

namespace Go.AM.Ytlahjnelghpmeaa
open Go.AM Go.Proofs


theorem rng_nilT : rng Tree.nil := by
  simp only [Tree.nil, rng, rngK]
  exact ⟨by decide, by simp, trivial⟩



end Go.AM.Ytlahjnelghpmeaa

namespace Go.AM.Ytlahjnelghpmeaa
open Go.AM Go.Proofs

theorem massTK (t : Tree) : t.words.length + massK t.kids + 1 = mass t := by obtain ⟨k, w, ks⟩ := t; simp only [mass, Tree.words_mk, Tree.kids_mk]; omega
theorem massK_set : ∀ (l : List Tree) (i : Nat) (x : Tree), i < l.length → massK (l.set i x) + mass (l.getD i Tree.nil) = massK l + mass x
  | [], i, x, h => by simp at h
  | a :: r, 0, x, _ => by simp only [List.set_cons_zero, massK, List.getD_cons_zero]; omega
  | a :: r, i + 1, x, h => by
    have := massK_set r i x (by simpa using h)
    simp only [List.set_cons_succ, massK, List.getD_cons_succ]; omega
theorem massK_reps (n : Nat) : massK (List.replicate n Tree.nil) = n := by
  induction n with
  | zero => rfl
  | succ n ih => rw [List.replicate_succ, massK, ih]; simp [Tree.nil, mass, massK]; omega
theorem massK_cat : ∀ (a b : List Tree), massK (a ++ b) = massK a + massK b
  | [], b => by simp [massK]
  | t :: r, b => by simp only [List.cons_append, massK, massK_cat r b]; omega
theorem massK_pad (l : List Tree) (i : Nat) (x : Tree) : massK (setPad Tree.nil l i x) + mass (l.getD i Tree.nil) ≤ massK l + mass x + (i + 1) := by
  have h := massK_set (l ++ List.replicate (i + 1 - l.length) Tree.nil) i x (by simp; omega)
  have e : (l ++ List.replicate (i + 1 - l.length) Tree.nil).getD i Tree.nil = l.getD i Tree.nil := by
    by_cases hi : i < l.length
    · simp only [List.getD_eq_getElem?_getD]; rw [List.getElem?_append_left hi]
    · simp only [List.getD_eq_getElem?_getD]
      rw [List.getElem?_append_right (by omega), List.getElem?_eq_none (l := l) (by omega), List.getElem?_replicate]
      split <;> rfl
  rw [e, massK_cat, massK_reps] at h
  simp only [setPad]
  omega

theorem wsD_len {tw : List Int} : ∀ {ws : List WEdit} {last : Int} {out a : List Int}, wordsOk last ws = true → wsD tw ws out = some a → a.length ≤ max out.length 65535
  | [], _, out, a, _, h => by rw [wsD] at h; cases h; omega
  | w :: r, last, out, a, hw, h => by
    have h1 := wordsOk_all hw w List.mem_cons_self
    simp only [wordsOk, Bool.and_eq_true] at hw
    rw [wsD] at h
    split at h
    · have := wsD_len hw.2 h
      rw [setPad_length] at this
      omega
    · cases h

theorem rightKs_cons {last d : Int} {k : Kid} {r : List Kid} (h : rightKs last (k :: r) d = true) : (last < k.at_ ∧ k.at_ ≤ 65534) ∧ rightE k.e d = true ∧ rightKs k.at_ r d = true := by
  have := rightKs_all h k List.mem_cons_self
  simp only [rightKs, Bool.and_eq_true] at h
  exact ⟨⟨this.1.1, this.1.2.1⟩, this.2, h.2⟩

theorem mass_step {A B C b u m M s o : Nat} (m1 : u + 262144 ≤ B + 131072 * m) (m2 : A + B ≤ o + u + C) (m3 : b + 131072 * s ≤ A + 131072 * M) (m4 : C ≤ 131072) : b + 131072 * (s + 1) ≤ o + 131072 * (m + M) := by
  rw [Nat.mul_add, Nat.mul_add, Nat.mul_one, ← Nat.add_assoc]
  generalize 131072 * s = S at *
  generalize 131072 * m = X at *
  generalize 131072 * M = Y at *
  omega

theorem nrD_mass (r : Bool) (v : Tree) : mass (nrD r v) ≤ mass v := by
  unfold nrD
  split
  · exact normT_mass v
  · exact Nat.le_refl _

mutual
theorem mass_raw (r : Bool) : ∀ (e : Edit) (d : Int) (t v : Tree), rightE e d = true → rawE r e t = some v → mass v + 262144 ≤ mass t + 131072 * massE e
  | .mk k o n w ks l os, d, t, v, hr, hv => by
    have ri := rightE_all hr
    have h1 := mass_doKs r ks t.kids
    have h2 := mass_doOs r l os
    have hm := len_massE (.mk k o n w ks l os)
    have po := mass_pos o
    have pn := mass_pos n
    have ht := massTK t
    simp only [Edit.old_mk, Edit.new_mk, Edit.words_mk, Edit.kids_mk, Edit.ops_mk] at hm
    unfold rawE at hv
    split at hv
    · cases hv; omega
    · split at hv
      · split at hv
        · cases hv
          show mass n + _ ≤ _
          omega
        · cases hv
      · split at hv
        · split at hv
          · obtain ⟨a, ha, hb⟩ := Option.bind_eq_some_iff.1 hv
            obtain ⟨b, hb, e⟩ := Option.map_eq_some_iff.1 hb
            have l1 := wsD_len ri.words ha
            have l2 := h1 t.kids b _ (-1) (by omega) ri.kids (fun j _ => rfl) hb
            rw [← e]
            simp only [mass]
            omega
          · cases hv
        · split at hv
          · split at hv
            · obtain ⟨b, hb, e⟩ := Option.map_eq_some_iff.1 hv
              unfold endD at hb
              obtain ⟨x, hx, hy⟩ := Option.bind_eq_some_iff.1 hb
              have l2 := h2 _ t.kids [] x (fun o ho => Go.AM.rightOs_mem ri.ops o ho) hx
              split at hy
              · cases hy
                rw [← e]
                simp only [mass, List.length_nil]
                simp only [massK] at l2
                omega
              · cases hy
            · cases hv
          · cases hv
theorem mass_doKs (r : Bool) : ∀ (ks : List (KidOf Edit)) (tk out b : List Tree) (d last : Int), -1 ≤ last → rightKs last ks d = true → (∀ j : Nat, last < (j : Int) → out.getD j Tree.nil = tk.getD j Tree.nil) → doKs r tk ks out = some b → massK b + 131072 * ks.length ≤ massK out + 131072 * massKs ks
  | [], tk, out, b, d, last, _, _, _, h => by rw [doKs] at h; cases h; simp
  | k :: s, tk, out, b, d, last, hl, hr, hj, h => by
    obtain ⟨h1, h2, h3⟩ := rightKs_cons hr
    rw [doKs] at h
    obtain ⟨u, hu, hb⟩ := Option.bind_eq_some_iff.1 h
    have m1 := mass_doKid r k tk u d h2 hu
    have m2 := massK_pad out k.at_.toNat u
    rw [hj k.at_.toNat (by omega)] at m2
    have m3 := mass_doKs r s tk _ b d k.at_ (by omega) h3 (fun j hj' => by
      rw [setPad_getD, if_neg (by omega)]
      exact hj j (by omega)) hb
    have m4 : k.at_.toNat + 1 ≤ 131072 := by omega
    have e1 : massKs (k :: s) = massE k.e + massKs s := by rw [massKs, massKid_e]
    rw [e1, List.length_cons]
    exact mass_step m1 m2 m3 m4
theorem mass_doKid (r : Bool) : ∀ (k : KidOf Edit) (tk : List Tree) (u : Tree) (d : Int), rightE k.e d = true → doKid r tk k = some u → mass u + 262144 ≤ mass (tk.getD k.at_.toNat Tree.nil) + 131072 * massE k.e
  | ⟨a, e⟩, tk, u, d, hr, h => by
    rw [doKid, doE_raw] at h
    obtain ⟨v, hv, hu⟩ := Option.map_eq_some_iff.1 h
    have := mass_raw r e d (tk.getD a.toNat Tree.nil) v hr hv
    have hvu := nrD_mass r v
    rw [hu] at hvu
    dsimp only
    omega
theorem mass_doOs (r : Bool) (l : Int) : ∀ (os : List (OpOf Edit)) (d : Int) (rest out : List Tree) (x : List Tree × List Tree), (∀ o ∈ os, rightOp l o d = true) → doOs r os rest out = some x → massK x.1 + massK x.2 ≤ massK out + massK rest + 131072 * massOs os
  | [], d, rest, out, x, _, h => by rw [doOs] at h; cases h; simp
  | o :: s, d, rest, out, x, hr, h => by
    rw [doOs] at h
    obtain ⟨y, hy, hx⟩ := Option.bind_eq_some_iff.1 h
    have m1 := mass_doOp r l o d rest out y (hr o List.mem_cons_self) hy
    have m2 := mass_doOs r l s d _ _ x (fun q hq => hr q (List.mem_cons_of_mem _ hq)) hx
    rw [massOs]
    omega
theorem mass_doOp (r : Bool) (l : Int) : ∀ (o : OpOf Edit) (d : Int) (rest out : List Tree) (x : List Tree × List Tree), rightOp l o d = true → doOp r o rest out = some x → massK x.1 + massK x.2 ≤ massK out + massK rest + 131072 * massOp o
  | ⟨k, n, L, e⟩, d, rest, out, x, hr, h => by
    have he := mass_raw r e d (rest.getD 0 Tree.nil)
    have hp := massE_pos e
    rw [doOp] at h
    simp only [massOp]
    split at h
    · split at h
      · cases h
        have := massK_cat (rest.take n.toNat) (rest.drop n.toNat)
        rw [List.take_append_drop] at this
        dsimp only
        rw [massK_cat]; omega
      · cases h
    · split at h
      · split at h
        · cases h
          have := massK_drop L.length rest
          dsimp only; omega
        · cases h
      · split at h
        · cases h
          dsimp only
          rw [massK_cat]; omega
        · split at h
          · cases h
          · obtain ⟨u, hu, e2⟩ := Option.map_eq_some_iff.1 h
            cases e2
            have hk : k = 3 := by
              have ra := rightOp_all hr
              generalize ho : OpOf.mk k n L e = o at ra
              cases ra <;> (injection ho with h1; try omega)
            rw [doE_raw] at hu
            obtain ⟨v, hv, hu⟩ := Option.map_eq_some_iff.1 hu
            have := he v (right_desc hr hk) hv
            have hvu := nrD_mass r v
            rw [hu] at hvu
            cases rest with
            | nil => contradiction
            | cons a q =>
              rw [massK_cat]
              simp only [massK, List.drop_succ_cons, List.drop_zero, List.getD_cons_zero] at this ⊢
              omega
end


theorem mass_do (r : Bool) (e : Edit) (d : Int) (t u : Tree) (hr : rightE e d = true) (h : doE r e t = some u) : mass u + 262144 ≤ mass t + 131072 * massE e := by
  rw [doE_raw] at h
  obtain ⟨v, hv, hu⟩ := Option.map_eq_some_iff.1 h
  have := mass_raw r e d t v hr hv
  have hvu := nrD_mass r v
  rw [hu] at hvu
  omega


end Go.AM.Ytlahjnelghpmeaa

namespace Go.AM.Ytlahjnelghpmeaa
open Go.AM Go.Proofs

theorem doE_mass {r : Bool} {e : Edit} {t u : Tree} (he : massE e ≤ 1000000) (hr : ∃ d, rightE e d = true) (ht : mass t ≤ 100000000000) (h : doE r e t = some u) : mass u ≤ 1000000000000 := by
  obtain ⟨d, hr⟩ := hr
  have := mass_do r e d t u hr h
  omega

theorem c52 : Contract Try.prog cfg 52 spec52 := by
  refine make52 c32 c82 ?_
  intro e t _ hp
  simp only [pre52] at hp
  refine vc52 _ _ _ ?_
  rintro y1 hy1 y2 hy2 y3 hy3
  subst hy1 hy2
  (simp only [vcT, bif_tl, bif_fr, bif_tlf, bif_frf, Bool.not_eq_true', Bool.not_eq_false', decide_eq_true_eq, decide_eq_false_iff_not, beq_iff_eq, beq_eq_false_iff_ne, bne_iff_ne, ne_eq, bne_eq_false_iff_eq, Bool.or_eq_true, Bool.and_eq_true, Bool.or_eq_false_iff, Bool.and_eq_false_imp])
  refine ⟨by simp only [pre82]; exact hp, fun hn => ?_, fun hs => ?_⟩
  · have hn : doE false y1 y2 = none := by simpa using hn
    simp only [res52, hn]
    (repeat' (first | exact trivial | exact rfl | refine And.intro ?_ ?_))
  · obtain ⟨u, hu⟩ := Option.isSome_iff_exists.1 hs
    rw [oneT_some hu] at hy3
    subst hy3
    have := doE_mass hp.1.1 hp.1.2.2 hp.2.1 hu
    refine ⟨by simp only [pre32]; exact this, ?_⟩
    simp only [res52, hu]
    (repeat' (first | exact trivial | exact rfl | refine And.intro ?_ ?_))

end Go.AM.Ytlahjnelghpmeaa

namespace Go.AM.Ytlahjnelghpmeaa
open Go.AM Go.Proofs

def args50 : ArgL (Tree × Unit) := (.cons (aEl .tree) .nil)
def pre50 (a : Tree × Unit) : Prop := small a.1 ∧ rng a.1
noncomputable def res50 (a : Tree × Unit) : V U := .c (.bool (goodT a.1))
noncomputable def spec50 : Fs U := fs args50 (fun a => [pre50 a]) res50

def args51 : ArgL (Unit) := .nil
def pre51 (a : Unit) : Prop := True
noncomputable def res51 (a : Unit) : V U := .c (.bool true)
noncomputable def spec51 : Fs U := fs args51 (fun a => [pre51 a]) res51

def args15 : ArgL (Tree × Tree × Tree × Unit) := (.cons (aEl .tree) (.cons (aEl .tree) (.cons (aEl .tree) .nil)))
def pre15 (a : Tree × Tree × Tree × Unit) : Prop := ((small a.1 ∧ rng a.1) ∧ small a.2.1 ∧ rng a.2.1) ∧ small a.2.2.1 ∧ rng a.2.2.1
noncomputable def res15 (a : Tree × Tree × Tree × Unit) : V U := .c (.bool true)
noncomputable def spec15 : Fs U := fs args15 (fun a => [pre15 a]) res15

noncomputable def know50 : List (FuncId × Fs U) := [(29, spec29), (47, spec47)]
def lv50 : Lives U := fun i => match i with
  | 0 => ([(1, [])], [((.loc 1), [])])
  | 1 => ([(2, [])], [])
  | _ => ([], [])
noncomputable abbrev A50 (p : List Nat) := awp cfg (know know50) (drawOk cfg (know know50)) Try.f50.ntmps lv50 (cd Try.f50 p)
theorem vc50 (t : Tree) (Q : AExit → LSt U → Prop) (h : ((pre29 ((Tree.mk (Tree.kind t) (Tree.words t) (Tree.kids t)), ())) ∧ (Tr ((decide (0 ≤ shallow (Tree.mk (Tree.kind t) (Tree.words t) (Tree.kids t)) 80 3000)) = true)) ∧ ((decide (0 ≤ shallow (Tree.mk (Tree.kind t) (Tree.words t) (Tree.kids t)) 80 3000)) = true → pre47 ((Tree.mk (Tree.kind t) (Tree.words t) (Tree.kids t)), 64, ())) ∧ ((Tr ((decide (0 ≤ shallow (Tree.mk (Tree.kind t) (Tree.words t) (Tree.kids t)) 80 3000)) = true))) ∧ (Tr ((bif (decide (0 ≤ shallow (Tree.mk (Tree.kind t) (Tree.words t) (Tree.kids t)) 80 3000)) then (rightT (Tree.mk (Tree.kind t) (Tree.words t) (Tree.kids t)) 64) else false) = true)) ∧ (Tr ((bif (decide (0 ≤ shallow (Tree.mk (Tree.kind t) (Tree.words t) (Tree.kids t)) 80 3000)) then (rightT (Tree.mk (Tree.kind t) (Tree.words t) (Tree.kids t)) 64) else false) = true)) ∧ ((Tr ((bif (decide (0 ≤ shallow (Tree.mk (Tree.kind t) (Tree.words t) (Tree.kids t)) 80 3000)) then (rightT (Tree.mk (Tree.kind t) (Tree.words t) (Tree.kids t)) 64) else false) = true))) ∧ (Q .ret (⟨[(2, .c (.bool (bif (bif (decide (0 ≤ shallow (Tree.mk (Tree.kind t) (Tree.words t) (Tree.kids t)) 80 3000)) then (rightT (Tree.mk (Tree.kind t) (Tree.words t) (Tree.kids t)) 64) else false) then (((Tree.kind t) : Int) != 10) else false)))], [], []⟩ : LSt U)))) :
    A50 [] (⟨[(0, .agg [.int .i64 (Tree.kind t), .slice (U := U) .u64 (Tree.words t) .unk, .slice (U := U) .tree (Tree.kids t) .unk])], [], []⟩ : LSt U) Q :=
  Eq.mpr (by kernel_rfl) h
def Body50 (t : Tree)  : Prop := awp cfg (know (know50)) (drawOk cfg (know (know50))) Try.f50.ntmps lv50 (cd Try.f50 []) (entry (args50.can (t, ())) []) (EndsQ cfg Try.f50.ntmps Try.f50.results.toList (res50 (t, ())) [])
theorem make50 (c29 : Contract Try.prog cfg 29 spec29) (c47 : Contract Try.prog cfg 47 spec47) (hb : ∀ (t : Tree) (_ : Unit), pre50 (t, ()) → Body50 t) : Contract Try.prog cfg 50 spec50 :=
  contract_flat (l := [(29, spec29), (47, spec47)]) cfgOk rfl (⟨c29, c47, trivial⟩) lv50 Try.func50 rfl rfl 1 (fun _ => rfl) (by decide) (fun ⟨t, _⟩ => hb t ())

noncomputable def know51 : List (FuncId × Fs U) := [(52, spec52)]
def lv51 : Lives U := fun i => match i with
  | 0 => ([], [])
  | 1 => ([(1, [])], [((.loc 1), [])])
  | 2 => ([(1, []), (2, []), (3, [])], [((.loc 1), []), ((.loc 2), [])])
  | 3 => ([(2, []), (3, []), (5, [])], [((.loc 2), [])])
  | 4 => ([(0, [])], [])
  | _ => ([], [])
noncomputable abbrev A51 (p : List Nat) := awp cfg (know know51) (drawOk cfg (know know51)) Try.f51.ntmps lv51 (cd Try.f51 p)
theorem vc51 (Q : AExit → LSt U → Prop) (h : ∀ y_1, y_1 = (Edit.mk 2 (Tree.mk 0 ([]) ([])) (Tree.mk 0 ([]) ([])) ([(WEdit.mk 0 1 5 6)]) ([]) 0 ([])) → ∀ y_2, y_2 = (Tree.words (orNil ((doE false y_1 (Tree.mk 1 ([5]) ([]))).map normT))) → (((pre52 (y_1, (Tree.mk 1 ([5]) ([])), ())) ∧ ((pre52 (y_1, (Tree.mk 1 ([7]) ([])), ())) ∧ ((Tr (((doE false y_1 (Tree.mk 1 ([5]) ([]))).isSome) = true)) ∧ ((Tr (((doE false y_1 (Tree.mk 1 ([5]) ([]))).isSome) = true))) ∧ (Tr ((bif ((doE false y_1 (Tree.mk 1 ([5]) ([]))).isSome) then (!((doE false y_1 (Tree.mk 1 ([7]) ([]))).isSome)) else false) = true)) ∧ (Tr ((bif ((doE false y_1 (Tree.mk 1 ([5]) ([]))).isSome) then (!((doE false y_1 (Tree.mk 1 ([7]) ([]))).isSome)) else false) = true)) ∧ (Tr ((bif ((doE false y_1 (Tree.mk 1 ([5]) ([]))).isSome) then (!((doE false y_1 (Tree.mk 1 ([7]) ([]))).isSome)) else false) = true)) ∧ ((Tr ((bif ((doE false y_1 (Tree.mk 1 ([5]) ([]))).isSome) then (!((doE false y_1 (Tree.mk 1 ([7]) ([]))).isSome)) else false) = true))) ∧ (Tr ((bif (bif ((doE false y_1 (Tree.mk 1 ([5]) ([]))).isSome) then (!((doE false y_1 (Tree.mk 1 ([7]) ([]))).isSome)) else false) then (((y_2.length : Int) : Int) == 1) else false) = true)) ∧ (Tr ((bif (bif ((doE false y_1 (Tree.mk 1 ([5]) ([]))).isSome) then (!((doE false y_1 (Tree.mk 1 ([7]) ([]))).isSome)) else false) then (((y_2.length : Int) : Int) == 1) else false) = true)) ∧ ((bif (bif ((doE false y_1 (Tree.mk 1 ([5]) ([]))).isSome) then (!((doE false y_1 (Tree.mk 1 ([7]) ([]))).isSome)) else false) then (((y_2.length : Int) : Int) == 1) else false) = true → (0 : Int) ≤ 0 ∧ 0 < (y_2.length : Int)) ∧ (Tr ((bif (bif ((doE false y_1 (Tree.mk 1 ([5]) ([]))).isSome) then (!((doE false y_1 (Tree.mk 1 ([7]) ([]))).isSome)) else false) then (((y_2.length : Int) : Int) == 1) else false) = true)) ∧ (Tr ((bif (bif ((doE false y_1 (Tree.mk 1 ([5]) ([]))).isSome) then (!((doE false y_1 (Tree.mk 1 ([7]) ([]))).isSome)) else false) then (((y_2.length : Int) : Int) == 1) else false) = true)) ∧ ((Tr ((bif (bif ((doE false y_1 (Tree.mk 1 ([5]) ([]))).isSome) then (!((doE false y_1 (Tree.mk 1 ([7]) ([]))).isSome)) else false) then (((y_2.length : Int) : Int) == 1) else false) = true))) ∧ (Q .ret (⟨[(0, .c (.bool (bif (bif (bif ((doE false y_1 (Tree.mk 1 ([5]) ([]))).isSome) then (!((doE false y_1 (Tree.mk 1 ([7]) ([]))).isSome)) else false) then (((y_2.length : Int) : Int) == 1) else false) then (((List.getD y_2 (Int.toNat 0) (0 : Int)) : Int) == 6) else false)))], [], []⟩ : LSt U))))))) :
    A51 [] (⟨[], [], []⟩ : LSt U) Q :=
  Eq.mpr (by kernel_rfl) (h _ rfl _ rfl)
def Body51  : Prop := awp cfg (know (know51)) (drawOk cfg (know (know51))) Try.f51.ntmps lv51 (cd Try.f51 []) (entry (args51.can (())) []) (EndsQ cfg Try.f51.ntmps Try.f51.results.toList (res51 (())) [])
theorem make51 (c52 : Contract Try.prog cfg 52 spec52) (hb : ∀ (_ : Unit), pre51 (()) → Body51 ) : Contract Try.prog cfg 51 spec51 :=
  contract_flat (l := [(52, spec52)]) cfgOk rfl (⟨c52, trivial⟩) lv51 Try.func51 rfl rfl 0 (fun _ => rfl) (by decide) (fun _ => hb  ())

noncomputable def know15 : List (FuncId × Fs U) := [(31, spec31), (33, spec33), (36, spec36), (50, spec50), (51, spec51), (52, spec52)]
def lv15 : Lives U := fun i => match i with
  | 0 => ([(3, []), (4, []), (5, [])], [((.loc 3), []), ((.loc 4), []), ((.loc 5), [])])
  | 1 => ([(3, []), (4, []), (5, []), (23, [])], [((.loc 3), []), ((.loc 4), []), ((.loc 5), [])])
  | 2 => ([(6, [])], [])
  | 3 => ([(3, []), (4, []), (5, []), (7, []), (8, [])], [((.loc 3), []), ((.loc 4), []), ((.loc 5), []), ((.loc 7), [])])
  | 4 => ([(3, []), (4, []), (5, []), (7, []), (8, []), (9, []), (10, [])], [((.loc 3), []), ((.loc 4), []), ((.loc 5), []), ((.loc 7), []), ((.loc 9), [])])
  | 5 => ([(4, []), (9, []), (10, []), (54, [])], [((.loc 4), []), ((.loc 9), [])])
  | 6 => ([(6, [])], [])
  | 7 => ([(6, [])], [])
  | _ => ([], [])
noncomputable abbrev A15 (p : List Nat) := awp cfg (know know15) (drawOk cfg (know know15)) Try.f15.ntmps lv15 (cd Try.f15 p)
theorem vc15 (a : Tree) (b : Tree) (t : Tree) (Q : AExit → LSt U → Prop) (h : ∀ y_1, y_1 = (a) → ∀ y_2, y_2 = (b) → ∀ y_3, y_3 = (t) → ∀ y_4, y_4 = (Edit.mk 0 (Tree.mk 0 ([]) ([])) (Tree.mk 0 ([]) ([])) ([]) ([]) 0 ([])) → ∀ y_5, y_5 = ((normT y_2)) → ∀ y_6, y_6 = ((normT y_3)) → ∀ y_7, y_7 = ((orNil ((doE false y_4 y_3).map normT))) → ∀ y_8, y_8 = (orNil ((doE false (Edit.mk 1 y_1 y_2 ([]) ([]) 0 ([])) y_3).map normT)) → ∀ y_9, y_9 = (y_8) → ((pre50 (y_1, ())) ∧ (Tr ((!(!(goodT y_1))) = true)) ∧ ((!(!(goodT y_1))) = true → pre50 (y_2, ())) ∧ (Tr ((!(!(goodT y_1))) = true)) ∧ (((!(goodT y_1)) = false → (!(!(goodT y_1))) = true)) ∧ (Tr ((!(bif (!(goodT y_1)) then true else (!(goodT y_2)))) = true)) ∧ ((!(bif (!(goodT y_1)) then true else (!(goodT y_2)))) = true → pre50 (y_3, ())) ∧ (Tr ((!(bif (!(goodT y_1)) then true else (!(goodT y_2)))) = true)) ∧ (((bif (!(goodT y_1)) then true else (!(goodT y_2))) = false → (!(bif (!(goodT y_1)) then true else (!(goodT y_2)))) = true)) ∧ (((bif (bif (!(goodT y_1)) then true else (!(goodT y_2))) then true else (!(goodT y_3))) = true → (pre51 (())) ∧ (Q .ret (⟨[(6, .c (.bool true))], [], []⟩ : LSt U))) ∧ ((bif (bif (!(goodT y_1)) then true else (!(goodT y_2))) then true else (!(goodT y_3))) = false → (pre52 (y_4, y_3, ())) ∧ ((pre52 ((Edit.mk 1 y_1 y_2 ([]) ([]) 0 ([])), y_3, ())) ∧ ((Tr ((!(!((doE false y_4 y_3).isSome))) = true)) ∧ ((!(!((doE false y_4 y_3).isSome))) = true → pre31 (y_3, ())) ∧ (Tr ((!(!((doE false y_4 y_3).isSome))) = true)) ∧ (Tr ((!(!((doE false y_4 y_3).isSome))) = true)) ∧ ((!(!((doE false y_4 y_3).isSome))) = true → pre33 (y_7, y_6, ())) ∧ (Tr ((!(!((doE false y_4 y_3).isSome))) = true)) ∧ (((!((doE false y_4 y_3).isSome)) = false → (!(!((doE false y_4 y_3).isSome))) = true)) ∧ (Tr ((!(bif (!((doE false y_4 y_3).isSome)) then true else (!(sameT y_7 y_6)))) = true)) ∧ (Tr ((!(bif (!((doE false y_4 y_3).isSome)) then true else (!(sameT y_7 y_6)))) = true)) ∧ ((!(bif (!((doE false y_4 y_3).isSome)) then true else (!(sameT y_7 y_6)))) = true → pre36 (y_1, y_3, ())) ∧ (Tr ((!(bif (!((doE false y_4 y_3).isSome)) then true else (!(sameT y_7 y_6)))) = true)) ∧ (Tr ((!(bif (!((doE false y_4 y_3).isSome)) then true else (!(sameT y_7 y_6)))) = true)) ∧ (((bif (!((doE false y_4 y_3).isSome)) then true else (!(sameT y_7 y_6))) = false → (!(bif (!((doE false y_4 y_3).isSome)) then true else (!(sameT y_7 y_6)))) = true)) ∧ (((bif (bif (!((doE false y_4 y_3).isSome)) then true else (!(sameT y_7 y_6))) then true else (((doE false (Edit.mk 1 y_1 y_2 ([]) ([]) 0 ([])) y_3).isSome) != (sameT (normT y_1) (normT y_3)))) = true → (Q .ret (⟨[(6, .c (.bool false))], [], []⟩ : LSt U))) ∧ ((bif (bif (!((doE false y_4 y_3).isSome)) then true else (!(sameT y_7 y_6))) then true else (((doE false (Edit.mk 1 y_1 y_2 ([]) ([]) 0 ([])) y_3).isSome) != (sameT (normT y_1) (normT y_3)))) = false → (Tr (((doE false (Edit.mk 1 y_1 y_2 ([]) ([]) 0 ([])) y_3).isSome) = true)) ∧ (((doE false (Edit.mk 1 y_1 y_2 ([]) ([]) 0 ([])) y_3).isSome) = true → pre31 (y_2, ())) ∧ (Tr (((doE false (Edit.mk 1 y_1 y_2 ([]) ([]) 0 ([])) y_3).isSome) = true)) ∧ (Tr (((doE false (Edit.mk 1 y_1 y_2 ([]) ([]) 0 ([])) y_3).isSome) = true)) ∧ (((doE false (Edit.mk 1 y_1 y_2 ([]) ([]) 0 ([])) y_3).isSome) = true → pre33 (y_9, y_5, ())) ∧ ((Tr (((doE false (Edit.mk 1 y_1 y_2 ([]) ([]) 0 ([])) y_3).isSome) = true))) ∧ (Tr ((!(bif ((doE false (Edit.mk 1 y_1 y_2 ([]) ([]) 0 ([])) y_3).isSome) then (sameT y_9 y_5) else false)) = true)) ∧ (Tr ((!(bif ((doE false (Edit.mk 1 y_1 y_2 ([]) ([]) 0 ([])) y_3).isSome) then (sameT y_9 y_5) else false)) = true)) ∧ (Tr (((!(bif ((doE false (Edit.mk 1 y_1 y_2 ([]) ([]) 0 ([])) y_3).isSome) then (sameT y_9 y_5) else false)) && (!((doE false (Edit.mk 1 y_1 y_2 ([]) ([]) 0 ([])) y_3).isSome))) = true)) ∧ (Tr (((!(bif ((doE false (Edit.mk 1 y_1 y_2 ([]) ([]) 0 ([])) y_3).isSome) then (sameT y_9 y_5) else false)) && (!((doE false (Edit.mk 1 y_1 y_2 ([]) ([]) 0 ([])) y_3).isSome))) = true)) ∧ (((!(bif ((doE false (Edit.mk 1 y_1 y_2 ([]) ([]) 0 ([])) y_3).isSome) then (sameT y_9 y_5) else false)) && (!((doE false (Edit.mk 1 y_1 y_2 ([]) ([]) 0 ([])) y_3).isSome))) = true → pre33 (y_9, (Tree.mk 0 ([]) ([])), ())) ∧ ((!(bif ((doE false (Edit.mk 1 y_1 y_2 ([]) ([]) 0 ([])) y_3).isSome) then (sameT y_9 y_5) else false)) = true → (True → (!(bif ((doE false (Edit.mk 1 y_1 y_2 ([]) ([]) 0 ([])) y_3).isSome) then (sameT y_9 y_5) else false)) = true)) ∧ ((!(bif ((doE false (Edit.mk 1 y_1 y_2 ([]) ([]) 0 ([])) y_3).isSome) then (sameT y_9 y_5) else false)) = true → ((!((doE false (Edit.mk 1 y_1 y_2 ([]) ([]) 0 ([])) y_3).isSome)) = true → ((!(bif ((doE false (Edit.mk 1 y_1 y_2 ([]) ([]) 0 ([])) y_3).isSome) then (sameT y_9 y_5) else false)) && (!((doE false (Edit.mk 1 y_1 y_2 ([]) ([]) 0 ([])) y_3).isSome))) = true)) ∧ (((bif ((doE false (Edit.mk 1 y_1 y_2 ([]) ([]) 0 ([])) y_3).isSome) then (sameT y_9 y_5) else false) = false → (!(bif ((doE false (Edit.mk 1 y_1 y_2 ([]) ([]) 0 ([])) y_3).isSome) then (sameT y_9 y_5) else false)) = true)) ∧ ((bif (bif ((doE false (Edit.mk 1 y_1 y_2 ([]) ([]) 0 ([])) y_3).isSome) then (sameT y_9 y_5) else false) then true else (bif (!((doE false (Edit.mk 1 y_1 y_2 ([]) ([]) 0 ([])) y_3).isSome)) then (sameT y_9 (Tree.mk 0 ([]) ([]))) else false)) = true → pre51 (())) ∧ ((Tr ((bif (bif ((doE false (Edit.mk 1 y_1 y_2 ([]) ([]) 0 ([])) y_3).isSome) then (sameT y_9 y_5) else false) then true else (bif (!((doE false (Edit.mk 1 y_1 y_2 ([]) ([]) 0 ([])) y_3).isSome)) then (sameT y_9 (Tree.mk 0 ([]) ([]))) else false)) = true))) ∧ (Q .ret (⟨[(6, .c (.bool (bif (bif (bif ((doE false (Edit.mk 1 y_1 y_2 ([]) ([]) 0 ([])) y_3).isSome) then (sameT y_9 y_5) else false) then true else (bif (!((doE false (Edit.mk 1 y_1 y_2 ([]) ([]) 0 ([])) y_3).isSome)) then (sameT y_9 (Tree.mk 0 ([]) ([]))) else false)) then true else false)))], [], []⟩ : LSt U)))))))))) :
    A15 [] (⟨[(0, .agg [.int .i64 (Tree.kind a), .slice (U := U) .u64 (Tree.words a) .unk, .slice (U := U) .tree (Tree.kids a) .unk]), (1, .agg [.int .i64 (Tree.kind b), .slice (U := U) .u64 (Tree.words b) .unk, .slice (U := U) .tree (Tree.kids b) .unk]), (2, .agg [.int .i64 (Tree.kind t), .slice (U := U) .u64 (Tree.words t) .unk, .slice (U := U) .tree (Tree.kids t) .unk])], [], []⟩ : LSt U) Q :=
  Eq.mpr (by kernel_rfl) (h _ (reTree_eq _) _ (reTree_eq _) _ (reTree_eq _) _ rfl _ (reTree_eq _) _ (reTree_eq _) _ (reTree_eq _) _ rfl _ (reTree_eq _))
def Body15 (a : Tree) (b : Tree) (t : Tree)  : Prop := awp cfg (know (know15)) (drawOk cfg (know (know15))) Try.f15.ntmps lv15 (cd Try.f15 []) (entry (args15.can (a, b, t, ())) []) (EndsQ cfg Try.f15.ntmps Try.f15.results.toList (res15 (a, b, t, ())) [])
theorem make15 (c31 : Contract Try.prog cfg 31 spec31) (c33 : Contract Try.prog cfg 33 spec33) (c36 : Contract Try.prog cfg 36 spec36) (c50 : Contract Try.prog cfg 50 spec50) (c51 : Contract Try.prog cfg 51 spec51) (c52 : Contract Try.prog cfg 52 spec52) (hb : ∀ (a : Tree) (b : Tree) (t : Tree) (_ : Unit), pre15 (a, b, t, ()) → Body15 a b t) : Contract Try.prog cfg 15 spec15 :=
  contract_flat (l := [(31, spec31), (33, spec33), (36, spec36), (50, spec50), (51, spec51), (52, spec52)]) cfgOk rfl (⟨c31, c33, c36, c50, c51, c52, trivial⟩) lv15 Try.func15 rfl rfl 3 (fun _ => rfl) (by decide) (fun ⟨a, b, t, _⟩ => hb a b t ())

end Go.AM.Ytlahjnelghpmeaa

namespace Go.AM.Ytlahjnelghpmeaa
open Go.AM Go.Proofs

section
variable {α β : Type} {z : α} {f : β → Option α} {p : β → Int}
end

def RT_ (t : Tree) : Prop := (∃ d, rightT t d = true) ∧ rng t

end Go.AM.Ytlahjnelghpmeaa

namespace Go.AM.Ytlahjnelghpmeaa
open Go.AM Go.Proofs

theorem goodT_in {t : Tree} (h : goodT t = true) (hr : rng t) : mass t ≤ 1000000 ∧ RT_ t ∧ rightT t 64 = true ∧ t.kind ≠ 10 := by
  unfold goodT at h
  simp only [Bool.and_eq_true, decide_eq_true_eq] at h
  exact ⟨few_mass' h.1.1, ⟨⟨64, h.1.2⟩, hr⟩, h.1.2, h.2⟩

theorem few21 {t : Tree} (h : goodT t = true) : mass t ≤ 3000 := by
  unfold goodT at h
  simp only [Bool.and_eq_true, decide_eq_true_eq] at h
  have := shallow_mass t 80 3000 h.1.1
  omega

theorem c50 : Contract Try.prog cfg 50 spec50 := by
  refine make50 c29 c47 ?_
  intro t _ hp
  simp only [pre50] at hp
  refine vc50 _ _ ?_
  (simp only [Tree.eta, Edit.eta, Tree.kind_mk, Tree.words_mk, Tree.kids_mk])
  (simp only [vcT, bif_tl, bif_fr, bif_tlf, bif_frf, Bool.not_eq_true', Bool.not_eq_false', decide_eq_true_eq, decide_eq_false_iff_not, beq_iff_eq, beq_eq_false_iff_ne, bne_iff_ne, ne_eq, bne_eq_false_iff_eq, Bool.or_eq_true, Bool.and_eq_true, Bool.or_eq_false_iff, Bool.and_eq_false_imp])
  refine ⟨by simp only [pre29]; exact hp.1, fun h => by simp only [pre47]; exact ⟨few_mass' h, hp.2, by omega, by omega⟩, ends_bool rfl ?_⟩
  unfold goodT
  rw [Bool.eq_iff_iff]
  simp only [bif_fr, Bool.and_eq_true, decide_eq_true_eq, bne_iff_ne]

theorem c51 : Contract Try.prog cfg 51 spec51 := by
  refine make51 c52 ?_
  intro _ _
  refine vc51 _ ?_
  rintro y1 hy1 y2 hy2
  have e1 : doE false y1 (.mk 1 [5] []) = some (.mk 1 [6] []) := by rw [hy1]; rfl
  have e2 : doE false y1 (.mk 1 [7] []) = none := by rw [hy1]; rfl
  have hr : rightE y1 64 = true := by rw [hy1]; rfl
  have hm : massE y1 ≤ 1000000 := by rw [hy1]; decide
  have hn : rngE y1 := by
    rw [hy1]
    simp only [rngE, rngKs, rngOs]
    have z := rng_nilT
    refine ⟨by unfold isI; omega, z, z, ?_, by unfold isI; omega, trivial, trivial⟩
    intro x hx
    simp only [List.mem_singleton] at hx
    subst hx
    exact ⟨by unfold isI; decide, by decide, by unfold isW; decide, by unfold isW; decide⟩
  have hp : ∀ x : Int, 0 ≤ x ∧ x < 1000 → pre52 (y1, .mk 1 [x] [], ()) := by
    intro x hx
    simp only [pre52]
    refine ⟨⟨hm, hn, 64, hr⟩, by simp [mass, massK], ⟨by decide, ?_, trivial⟩⟩
    intro y hy
    simp only [List.mem_singleton] at hy
    omega
  rw [e1] at hy2
  rw [e1, e2]
  rw [show y2 = [6] by rw [hy2]; rfl]
  exact ⟨hp 5 (by omega), hp 7 (by omega), fun x => x, fun x => x, fun x => x, fun x => x, fun x => x, fun x => x, fun x => x, fun x => x, fun _ => by simp, fun x => x, fun x => x, fun x => x, ends_bool rfl rfl⟩

theorem c15 : Contract Try.prog cfg 15 spec15 := by
  refine make15 c31 c33 c36 c50 c51 c52 ?_
  intro a b t _ hp
  simp only [pre15] at hp
  refine vc15 _ _ _ _ ?_
  rintro y1 hy1 y2 hy2 y3 hy3 y4 hy4 y5 hy5 y6 hy6 y7 hy7 y8 hy8 y9 hy9
  subst hy1 hy2 hy3
  (simp only [vcT, bif_tl, bif_fr, bif_tlf, bif_frf, Bool.not_eq_true', Bool.not_eq_false', decide_eq_true_eq, decide_eq_false_iff_not, beq_iff_eq, beq_eq_false_iff_ne, bne_iff_ne, ne_eq, bne_eq_false_iff_eq, Bool.or_eq_true, Bool.and_eq_true, Bool.or_eq_false_iff, Bool.and_eq_false_imp])
  refine ⟨by simp only [pre50]; exact hp.1.1, fun _ => by simp only [pre50]; exact hp.1.2, fun _ => by simp only [pre50]; exact hp.2, fun _ => ⟨trivial, ends_bool rfl rfl⟩, fun hg => ?_⟩
  obtain ⟨⟨g1, g2⟩, g3⟩ := hg
  obtain ⟨m1, _, r1, k1⟩ := goodT_in g1 hp.1.1.2
  obtain ⟨m2, _, r2, k2⟩ := goodT_in g2 hp.1.2.2
  obtain ⟨m3, _, _, _⟩ := goodT_in g3 hp.2.2
  have d4 : doE false y4 y3 = some y3 := by rw [hy4, doE_at]; rfl
  have z := rng_nilT
  have e4 : (massE y4 ≤ 1000000 ∧ rngE y4 ∧ ∃ d, rightE y4 d = true) := by
    rw [hy4]
    exact ⟨by decide, by simp only [rngE, rngKs, rngOs]; exact ⟨by unfold isI; decide, z, z, by simp, by unfold isI; decide, trivial, trivial⟩, 64, rfl⟩
  have d5 : doE false (Edit.mk 1 y1 y2 [] [] 0 []) y3 = if sameT (normT y1) (normT y3) = true then some y2 else none := by rw [doE_at, nrD_false]; rfl
  have e5 : (massE (Edit.mk 1 y1 y2 [] [] 0 []) ≤ 1000000 ∧ rngE (Edit.mk 1 y1 y2 [] [] 0 []) ∧ rightE (Edit.mk 1 y1 y2 [] [] 0 []) 64 = true) := by
    have h1 := few21 g1
    have h2 := few21 g2
    refine ⟨by simp only [massE, massKs, massOs, List.length_nil]; omega, by simp only [rngE, rngKs, rngOs]; exact ⟨by unfold isI; decide, hp.1.1.2, hp.1.2.2, by simp, by unfold isI; decide, trivial, trivial⟩, ?_⟩
    rw [rightE]
    simp [r1, r2, k1, k2]
  have e7 : y7 = y6 := by rw [hy7, hy6, d4]; rfl
  have m6 : mass y6 ≤ 1000000 := by rw [hy6]; have := normT_mass y3; omega
  have m5 : mass y5 ≤ 1000000 := by rw [hy5]; have := normT_mass y2; omega
  have e9 : y9 = if sameT (normT y1) (normT y3) = true then y5 else Tree.nil := by
    rw [hy9, hy8, d5]
    split
    · rw [hy5]; rfl
    · rfl
  have m9 : mass y9 ≤ 1000000 := by
    rw [e9]; split
    · exact m5
    · simp [Tree.nil, mass, massK]
  have i5 : (doE false (Edit.mk 1 y1 y2 [] [] 0 []) y3).isSome = sameT (normT y1) (normT y3) := by
    rw [d5]; cases sameT (normT y1) (normT y3) <;> rfl
  refine ⟨by simp only [pre52]; exact ⟨e4, by omega, hp.2.2⟩, by simp only [pre52]; exact ⟨⟨e5.1, e5.2.1, 64, e5.2.2⟩, by omega, hp.2.2⟩, fun _ => by simp only [pre31]; omega, fun _ => by simp only [pre33]; rw [e7]; omega, fun _ => by simp only [pre36]; omega, fun h => ?_, fun _ => ⟨fun _ => by simp only [pre31]; omega, fun _ => by simp only [pre33]; omega, fun _ => by simp only [pre33]; omega, fun h h' => ⟨h, h'⟩, fun _ => trivial, ends_bool rfl ?_⟩⟩
  · rw [e7, sameT_self, i5, d4] at h
    simp at h
  · rw [i5, e9]
    cases sameT (normT y1) (normT y3) <;> simp [sameT_self, Tree.nil]

end Go.AM.Ytlahjnelghpmeaa
