import Derived.Test.YtlahjnelghpmeaaL21g
import Derived.Test.YtlahjnelghpmeaaG21a
set_option linter.unusedSimpArgs false
set_option linter.unusedVariables false
namespace Go.AM.Ytlahjnelghpmeaa
open Go.AM Go.Proofs

theorem b83 : HB83 := by
  intro N e t _ hp hN
  simp only [pre83, mu83] at hp hN
  obtain ⟨k2, ⟨p1, p2, d, p3⟩, p4, p5⟩ := hp
  have h1 := len_massE e
  have h2 := massKs_len e.kids
  have h3 := massTK t
  have h4 := massK_len t.kids
  have r2 := rngE_at p2
  have rt := rng_at p5
  have ri := rightE_all p3
  have no : strD true e t = none → EndsQ cfg Try.f83.ntmps Try.f83.results.toList (res83 (e, t, ())) [] .ret (⟨[(4, .ptr (.loc 4) 0), (5, .c (.bool false))], [((.loc 4), [.int .i64 0, .nils, .nils])], []⟩ : LSt U) := by
    intro hs
    simp only [res83, hs]
    (repeat' (first | exact trivial | exact rfl | refine And.intro ?_ ?_))
  refine vc83 _ _ _ _ ?_
  rintro y1 hy1 y2 hy2
  (simp only [vcT, bif_tl, bif_fr, bif_tlf, bif_frf, Bool.not_eq_true', Bool.not_eq_false', decide_eq_true_eq, decide_eq_false_iff_not, beq_iff_eq, beq_eq_false_iff_ne, bne_iff_ne, ne_eq, bne_eq_false_iff_eq, Bool.or_eq_true, Bool.and_eq_true, Bool.or_eq_false_iff, Bool.and_eq_false_imp])
  refine ⟨fun hk => no (by unfold strD; rw [if_neg hk]), fun hk => ?_⟩
  have hk : t.kind = 1 := by simpa using hk
  rw [show Int.toNat ((e.words.length : Int) - 1) = e.words.length - 1 by omega] at hy1
  rw [show Int.toNat ((e.kids.length : Int) - 1) = e.kids.length - 1 by omega] at hy2
  have wm : 0 < e.words.length → y1 ∈ e.words := fun h => by rw [hy1]; exact mem_getD (by omega) _
  have km : 0 < e.kids.length → y2 ∈ e.kids := fun h => by rw [hy2]; exact mem_getD (by omega) _
  have wr : 0 < e.words.length → 0 ≤ y1.at_ ∧ y1.at_ ≤ 65534 := fun h => by have := wordsOk_all ri.words y1 (wm h); omega
  have kr : 0 < e.kids.length → 0 ≤ y2.at_ ∧ y2.at_ ≤ 65534 := fun h => by have := rightKs_all ri.kids y2 (km h); omega
  have go : ∀ n m : Int, n = (if 0 < e.words.length ∧ (t.words.length : Int) ≤ y1.at_ then y1.at_ + 1 else (t.words.length : Int)) → m = (if 0 < e.kids.length ∧ (t.kids.length : Int) ≤ y2.at_ then y2.at_ + 1 else (t.kids.length : Int)) →
      LoopWp (A83 N [1, 1, 1, 1, 1, 1, 1, 0, 1, 0, 0]) (head83_0 e t m n 0 0 []) (AExit.inBlock 0 (S83 N [1, 1, 1, 1, 1, 1, 1, 1] (EndsQ cfg Try.f83.ntmps Try.f83.results.toList (res83 (e, t, ())) []))) := by
    intro n m hn hm
    have ln : n ≤ t.words.length + 65536 := by
      rw [hn]; split
      · rename_i h; have := wr h.1; omega
      · omega
    have lm : m ≤ t.kids.length + 65536 := by
      rw [hm]; split
      · rename_i h; have := kr h.1; omega
      · omega
    rw [hy1] at hn
    rw [hy2] at hm
    have i0 := Mg.init (z := 0) (f := fun w => if mix 0 (t.words.getD w.at_.toNat 0) w.mask = w.old then some (mix (t.words.getD w.at_.toNat 0) w.new w.mask) else none) (WEdit.mk 0 0 0 0) (words_asc ri.words) hn
    have j0 := Mg.init (z := Tree.nil) (f := doKid true t.kids) (KidOf.mk 0 Edit.nil) (kids_asc ri.kids) hm
    refine loop_rule (ι := Int × Int × List Int) (fun s => head83_0 e t m n s.1 s.2.1 s.2.2) (fun s => Mg 0 (fun w => if mix 0 (t.words.getD w.at_.toNat 0) w.mask = w.old then some (mix (t.words.getD w.at_.toNat 0) w.new w.mask) else none) WEdit.at_ t.words e.words n s.1 s.2.1 s.2.2) (fun s => (n - s.2.1).toNat) (0, 0, []) rfl i0 ?_
    rintro ⟨a, i, out⟩ hI
    dsimp only at hI
    have q1 := hI.i0; have q2 := hI.a0; have q3 := hI.len
    refine vc83_l0 _ _ _ _ _ _ _ _ _ _ ?_
    rintro z1 hz1 z2 hz2
    subst hz1
    have hw : wordAt z1 i = z1.words.getD i.toNat 0 := wordAt_pos z1 (by omega)
    have hwi := word_in rt.2.1 i.toNat
    rw [hw]
    unfold isW at hwi
    (simp only [vcT, bif_tl, bif_fr, bif_tlf, bif_frf, Bool.not_eq_true', Bool.not_eq_false', decide_eq_true_eq, decide_eq_false_iff_not, beq_iff_eq, beq_eq_false_iff_ne, bne_iff_ne, ne_eq, bne_eq_false_iff_eq, Bool.or_eq_true, Bool.and_eq_true, Bool.or_eq_false_iff, Bool.and_eq_false_imp])
    refine ⟨fun hi => ⟨by simp only [pre115]; omega, fun h => ⟨by omega, h⟩, fun hg => ⟨⟨by omega, hg.1⟩, ?_⟩, fun hg => ⟨by simp only [List.length_singleton]; omega, by unfold InR; omega, (a, i + 1, out ++ [z1.words.getD i.toNat 0]), rfl, ?_, by dsimp only; omega⟩⟩, fun hi => ?_⟩
    · have hmem : z2 ∈ e.words := by rw [hz2]; exact mem_getD (by omega) _
      obtain ⟨g1, g2, g3, g4⟩ := r2.2.2.2.1 z2 hmem
      unfold isW at g3 g4
      have hf : ∀ v, (if mix 0 (z1.words.getD z2.at_.toNat 0) z2.mask = z2.old then some (mix (z1.words.getD z2.at_.toNat 0) z2.new z2.mask) else none) = v → (fun w : WEdit => if mix 0 (z1.words.getD w.at_.toNat 0) w.mask = w.old then some (mix (z1.words.getD w.at_.toNat 0) w.new w.mask) else none) (e.words.getD a.toNat (WEdit.mk 0 0 0 0)) = v := by
        intro v hv; rw [← hz2]; exact hv
      rw [hg.2] at hf
      refine ⟨by simp only [pre116]; omega, fun hne => no ?_, fun heq => ?_⟩
      · have := hI.none (WEdit.mk 0 0 0 0) hg.1 (hf _ (if_neg hne))
        unfold strD
        rw [if_pos hk, wsD_mg, this]
        rfl
      · have heq : mix 0 (z1.words.getD i.toNat 0) z2.mask = z2.old := by simpa using heq
        have := hI.edit (WEdit.mk 0 0 0 0) hi hg.1 (by rw [← hz2]; exact hg.2) (hf _ (if_pos heq))
        exact ⟨by simp only [pre116]; omega, by unfold InR; omega, by simp only [List.length_singleton]; omega, by unfold InR; omega, (a + 1, i + 1, out ++ [mix (z1.words.getD i.toNat 0) z2.new z2.mask]), rfl, this, by dsimp only; omega⟩
    · refine hI.plain (WEdit.mk 0 0 0 0) hi (fun h => ?_)
      rw [← hz2] at h
      rcases hg with hg | hg
      · exact hg h.1
      · exact hg h.2
    · have hws := hI.fin hi
      rw [← wsD_mg] at hws
      refine loop_rule (ι := Int × Int × List Tree) (fun s => head83_1 e z1 m out s.1 s.2.1 s.2.2) (fun s => Mg Tree.nil (doKid true z1.kids) KidOf.at_ z1.kids e.kids m s.1 s.2.1 s.2.2) (fun s => (m - s.2.1).toNat) (0, 0, []) rfl j0 ?_
      rintro ⟨b, j, ks⟩ hJ
      dsimp only at hJ
      have w1 := hJ.i0; have w2 := hJ.a0; have w3 := hJ.len
      refine vc83_l1 _ _ _ _ _ _ _ _ _ _ ?_
      rintro x1 hx1 x2 hx2 x4 hx4 x5 hx5 x6 hx6
      subst hx1
      have hkid : kidAt x1 j = x1.kids.getD j.toNat Tree.nil := kidAt_pos x1 (by omega)
      rw [hkid] at hx5
      (simp only [vcT, bif_tl, bif_fr, bif_tlf, bif_frf, Bool.not_eq_true', Bool.not_eq_false', decide_eq_true_eq, decide_eq_false_iff_not, beq_iff_eq, beq_eq_false_iff_ne, bne_iff_ne, ne_eq, bne_eq_false_iff_eq, Bool.or_eq_true, Bool.and_eq_true, Bool.or_eq_false_iff, Bool.and_eq_false_imp])
      refine ⟨fun hj => ⟨by simp only [pre117]; omega, fun h => ⟨by omega, h⟩, fun hg => ⟨⟨by omega, hg.1⟩, ?_⟩, fun hg => ⟨by simp only [List.length_singleton]; omega, by unfold InR; omega, (b, j + 1, ks ++ [x5]), rfl, ?_, by dsimp only; omega⟩⟩, fun hj => ?_⟩
      · have hmem : x2 ∈ e.kids := by rw [hx2]; exact mem_getD (by omega) _
        have hk2 := rightKs_all ri.kids x2 hmem
        have hm := massKs_mem hmem
        have hr := (rngKs_mem r2.2.2.2.2.2.1 hmem).2
        have hm5 := mass_kid x1.kids j.toNat
        have hr5 := rng_kid rt.2.2 j.toNat
        rw [← hx5] at hm5 hr5
        rw [← hx4] at hm hr hk2
        have hf : ∀ v, doE true x4 x5 = v → doKid true x1.kids (e.kids.getD b.toNat (KidOf.mk 0 Edit.nil)) = v := by
          intro v hv
          rw [← hx2, doKid_at, hg.2, ← hx5, ← hx4]; exact hv
        refine ⟨by simp only [pre53]; exact ⟨⟨by omega, hr, _, hk2.2⟩, by omega, hr5⟩, by simp only [mu53]; omega, fun hne => no ?_, fun heq => ?_⟩
        · have hne : doE true x4 x5 = none := by simpa using hne
          have := hJ.none (KidOf.mk 0 Edit.nil) hg.1 (hf _ hne)
          unfold strD
          rw [if_pos hk, hws, Option.bind_some, doKs_mg, this]
          rfl
        · obtain ⟨u, hu⟩ := Option.isSome_iff_exists.1 heq
          have := hJ.edit (KidOf.mk 0 Edit.nil) hj hg.1 (by rw [← hx2]; exact hg.2) (hf _ hu)
          rw [hu] at hx6
          have e6 : x6 = u := hx6
          subst e6
          exact ⟨by unfold InR; omega, by simp only [List.length_singleton]; omega, by unfold InR; omega, (b + 1, j + 1, ks ++ [x6]), rfl, this, by dsimp only; omega⟩
      · rw [hx5]
        refine hJ.plain (KidOf.mk 0 Edit.nil) hj (fun h => ?_)
        rw [← hx2] at h
        rcases hg with hg | hg
        · exact hg h.1
        · exact hg h.2
      · have hks := hJ.fin hj
        rw [← doKs_mg] at hks
        have hs : strD true e x1 = some (.mk 1 out ks) := by
          unfold strD
          rw [if_pos hk, hws, Option.bind_some, hks]
          rfl
        simp only [res83, hs]
        (repeat' (first | exact trivial | exact rfl | refine And.intro ?_ ?_))
  have kk : ∀ n : Int, n = (if 0 < e.words.length ∧ (t.words.length : Int) ≤ y1.at_ then y1.at_ + 1 else (t.words.length : Int)) → _ := fun n hn =>
    And.intro (fun (_ : (0 : Int) < e.kids.length) => show InR ((e.kids.length : Int) - 1) by unfold InR; omega) (And.intro (fun (_ : (0 : Int) < e.kids.length) => show (0 : Int) ≤ (e.kids.length : Int) - 1 ∧ (e.kids.length : Int) - 1 < e.kids.length by omega) (And.intro
      (fun (h : (0 : Int) < e.kids.length ∧ (t.kids.length : Int) ≤ y2.at_) => And.intro (show InR ((e.kids.length : Int) - 1) by unfold InR; omega) (And.intro (show (0 : Int) ≤ (e.kids.length : Int) - 1 ∧ (e.kids.length : Int) - 1 < e.kids.length by omega) (And.intro (show InR (y2.at_ + 1) by have := kr (by omega); unfold InR; omega) (go n (y2.at_ + 1) hn (by rw [if_pos ⟨by omega, h.2⟩])))))
      (fun (h : ¬ (0 : Int) < e.kids.length ∨ ¬ (t.kids.length : Int) ≤ y2.at_) => go n t.kids.length hn (by rw [if_neg (by omega)]))))
  refine ⟨fun _ => by unfold InR; omega, fun _ => by omega, fun hw => ⟨by unfold InR; omega, by omega, by have := wr (by omega); unfold InR; omega, kk _ (by rw [if_pos ⟨by omega, hw.2⟩])⟩, fun hw => kk _ (by rw [if_neg (by omega)])⟩

theorem rightOp_facts {list : Int} {o : Op} {d : Int} (h : rightOp list o d = true) : (o.kind = 0 ∧ (1 ≤ o.n ∧ o.n ≤ 1048576) ∧ o.l = []) ∨ (o.kind = 1 ∧ o.n = 0) ∨ (o.kind = 2 ∧ o.n = 0) ∨ (o.kind = 3 ∧ o.n = 0 ∧ o.l = [] ∧ rightE o.e d = true) := by
  have r := rightOp_all h
  cases r with
  | keep n h1 h2 => exact .inl ⟨rfl, ⟨h1, h2⟩, rfl⟩
  | gone => exact .inr (.inl ⟨rfl, rfl⟩)
  | come => exact .inr (.inr (.inl ⟨rfl, rfl⟩))
  | into e h1 => exact .inr (.inr (.inr ⟨rfl, rfl, rfl, h1⟩))
theorem take_snoc {α : Type} {l : List α} {n : Nat} (h : n < l.length) (d : α) : l.take (n + 1) = l.take n ++ [l.getD n d] := by
  rw [List.take_add_one, List.getD_eq_getElem?_getD, List.getElem?_eq_getElem h]; rfl
theorem drop_getD' {α : Type} (l : List α) (m n : Nat) (d : α) : (l.drop m).getD n d = l.getD (m + n) d := by
  rw [List.getD_eq_getElem?_getD, List.getD_eq_getElem?_getD, List.getElem?_drop]

theorem b84 : HB84 := by
  intro N e t _ hp hN
  simp only [pre84, mu84] at hp hN
  obtain ⟨k3, ⟨p1, p2, d, p3⟩, p4, p5⟩ := hp
  have h1 := len_massE e
  have h2 := massOs_len e.ops
  have h3 := massTK t
  have h4 := massK_len t.kids
  have r2 := rngE_at p2
  have rt := rng_at p5
  have ri := rightE_all p3
  refine vc84 _ _ _ _ ?_
  (simp only [vcT, bif_tl, bif_fr, bif_tlf, bif_frf, Bool.not_eq_true', Bool.not_eq_false', decide_eq_true_eq, decide_eq_false_iff_not, beq_iff_eq, beq_eq_false_iff_ne, bne_iff_ne, ne_eq, bne_eq_false_iff_eq, Bool.or_eq_true, Bool.and_eq_true, Bool.or_eq_false_iff, Bool.and_eq_false_imp])
  have no : lstD true e t = none → EndsQ cfg Try.f84.ntmps Try.f84.results.toList (res84 (e, t, ())) [] .ret (⟨[(4, .ptr (.loc 4) 0), (5, .c (.bool false))], [((.loc 4), [.int .i64 0, .nils, .nils])], []⟩ : LSt U) := by
    intro hs
    simp only [res84, hs]
    (repeat' (first | exact trivial | exact rfl | refine And.intro ?_ ?_))
  refine ⟨fun hk => no (by unfold lstD; rw [if_neg hk]), fun hk => ?_⟩
  have hk : t.kind = e.list := by simpa using hk
  have hl0 : lstD true e t = doOs true e.ops t.kids [] := by unfold lstD; rw [if_pos hk]
  refine loop_rule (ι := Int × Int × List Tree) (fun s => head84_0 e t s.1 s.2.1 s.2.2)
    (fun s => (0 ≤ s.1 ∧ s.1 ≤ t.kids.length) ∧ (0 ≤ s.2.1 ∧ s.2.1 ≤ e.ops.length) ∧ doOs true (e.ops.drop s.2.1.toNat) (t.kids.drop s.1.toNat) s.2.2 = lstD true e t ∧ (s.2.2.length : Int) + (t.kids.length - s.1) + massOs (e.ops.drop s.2.1.toNat) ≤ t.kids.length + massOs e.ops)
    (fun s => ((e.ops.length : Int) - s.2.1).toNat) (0, 0, []) rfl ⟨by simp, by simp, by simp [hl0], by simp⟩ ?_
  rintro ⟨at_, i, out⟩ ⟨⟨a1, a2⟩, ⟨f1, f2⟩, f3, f4⟩
  dsimp only at a1 a2 f1 f2 f3 f4
  refine vc84_l0 _ _ _ _ _ _ _ _ ?_
  (simp only [vcT, bif_tl, bif_fr, bif_tlf, bif_frf, Bool.not_eq_true', Bool.not_eq_false', decide_eq_true_eq, decide_eq_false_iff_not, beq_iff_eq, beq_eq_false_iff_ne, bne_iff_ne, ne_eq, bne_eq_false_iff_eq, Bool.or_eq_true, Bool.and_eq_true, Bool.or_eq_false_iff, Bool.and_eq_false_imp])
  refine ⟨fun hi => ⟨⟨f1, hi⟩, ?_⟩, fun hi => ?_⟩
  · have hmem := mem_getD (l := e.ops) (i := i.toNat) (by omega) Op.nil
    rw [dropI f1 hi Op.nil] at f3 f4
    have fin : ∀ (a : Int) (m : List Tree), (0 ≤ a ∧ a ≤ t.kids.length) → doOs true (e.ops.drop (i + 1).toNat) (t.kids.drop a.toNat) m = lstD true e t → (m.length : Int) + (t.kids.length - a) + massOs (e.ops.drop (i + 1).toNat) ≤ t.kids.length + massOs e.ops → ∀ s2, s2 = head84_0 e t a (i + 1) m →
        ∃ j : Int × Int × List Tree, s2 = head84_0 e t j.1 j.2.1 j.2.2 ∧ ((0 ≤ j.1 ∧ j.1 ≤ t.kids.length) ∧ (0 ≤ j.2.1 ∧ j.2.1 ≤ e.ops.length) ∧ doOs true (e.ops.drop j.2.1.toNat) (t.kids.drop j.1.toNat) j.2.2 = lstD true e t ∧ (j.2.2.length : Int) + (t.kids.length - j.1) + massOs (e.ops.drop j.2.1.toNat) ≤ t.kids.length + massOs e.ops) ∧ ((e.ops.length : Int) - j.2.1).toNat < ((e.ops.length : Int) - i).toNat := by
      rintro a m b1 b2 b3 _ rfl
      exact ⟨(a, i + 1, m), rfl, ⟨b1, ⟨by dsimp only; omega, by dsimp only; omega⟩, b2, b3⟩, by dsimp only; omega⟩
    generalize hy : e.ops.getD i.toNat Op.nil = y1 at *
    have hr := Go.AM.rightOs_mem ri.ops y1 hmem
    have hm := massOs_mem hmem
    have hme := massOp_e y1
    have hro := rngOp_e (rngOs_mem r2.2.2.2.2.2.2 hmem)
    have hml := massK_len y1.l
    simp only [massOs] at f4
    rw [doOs_cons, doOp_at] at f3
    have hrest : (t.kids.drop at_.toNat).length = t.kids.length - at_.toNat := List.length_drop ..
    rcases rightOp_facts hr with ⟨k0, hn, hl⟩ | ⟨k1, hn⟩ | ⟨k2, hn⟩ | ⟨k3', hn, hl, hre⟩
    · -- kids are kept
      rw [if_pos k0] at f3
      refine loop_rule (ι := Int × Int × List Tree) (fun s => head84_1 e t i s.1 s.2.1 s.2.2) (fun s => (0 ≤ s.2.1 ∧ s.2.1 ≤ y1.n) ∧ s.1 = at_ + s.2.1 ∧ s.1 ≤ t.kids.length ∧ s.2.2 = out ++ (t.kids.drop at_.toNat).take s.2.1.toNat) (fun s => (y1.n - s.2.1).toNat) (at_, 0, out) rfl ⟨by simp; omega, by simp, by simp; omega, by simp⟩ ?_
      rintro ⟨a, q, m⟩ ⟨⟨c1, c2⟩, c3, c4, c5⟩
      dsimp only at c1 c2 c3 c4 c5
      refine vc84_l1 _ _ _ _ _ _ _ _ _ _ ?_
      rintro z1 hz1 z2 hz2
      rw [hy] at hz1
      subst hz1
      (simp only [vcT, bif_tl, bif_fr, bif_tlf, bif_frf, Bool.not_eq_true', Bool.not_eq_false', decide_eq_true_eq, decide_eq_false_iff_not, beq_iff_eq, beq_eq_false_iff_ne, bne_iff_ne, ne_eq, bne_eq_false_iff_eq, Bool.or_eq_true, Bool.and_eq_true, Bool.or_eq_false_iff, Bool.and_eq_false_imp])
      have hlen : (m.length : Int) ≤ out.length + q := by rw [c5]; simp only [List.length_append, List.length_take]; omega
      refine ⟨fun hg => ⟨fun hx => no ?_, fun hx => ⟨by omega, by simp only [List.length_singleton]; omega, by unfold InR; omega, by unfold InR; omega, (a + 1, q + 1, m ++ [z2]), rfl, ⟨by dsimp only; omega, by dsimp only; omega, by dsimp only; omega, ?_⟩, by dsimp only; omega⟩⟩, fun hg => ?_⟩
      · rw [if_neg (by omega)] at f3
        exact f3.symm
      · dsimp only
        rw [show (q + 1).toNat = q.toNat + 1 by omega, take_snoc (by omega) Tree.nil, drop_getD', show at_.toNat + q.toNat = a.toNat by omega, ← hz2, c5, List.append_assoc]
      · have hq : q = z1.n := by omega
        subst hq
        rw [if_pos (by omega), Option.bind_some, List.drop_drop, show at_.toNat + z1.n.toNat = a.toNat by omega, ← c5] at f3
        dsimp only at f3
        refine loop_rule (ι := Unit) (fun _ => head84_2 e t i 0 a m) (fun _ => True) (fun _ => 0) () rfl trivial ?_
        intro _ _
        refine vc84_l2 _ _ _ _ _ _ _ _ _ _ ?_
        rintro w1 hw1 w2 hw2 w3 hw3 w4 hw4 w5 hw5 w6 hw6 w7 hw7
        rw [hy] at hw1
        subst hw1
        rw [hl]
        (simp only [vcT, bif_tl, bif_fr, bif_tlf, bif_frf, Bool.not_eq_true', Bool.not_eq_false', decide_eq_true_eq, decide_eq_false_iff_not, beq_iff_eq, beq_eq_false_iff_ne, bne_iff_ne, ne_eq, bne_eq_false_iff_eq, Bool.or_eq_true, Bool.and_eq_true, Bool.or_eq_false_iff, Bool.and_eq_false_imp])
        exact ⟨fun h => absurd h (by simp), fun _ => ⟨fun h => absurd h (by omega), fun _ => ⟨by unfold InR; omega, fin _ _ (by omega) f3 (by omega) _ rfl⟩⟩⟩
    · -- kids are gone
      rw [if_neg (by omega), if_pos k1] at f3
      refine loop_rule (ι := Unit) (fun _ => head84_1 e t i at_ 0 out) (fun _ => True) (fun _ => 0) () rfl trivial ?_
      intro _ _
      refine vc84_l1 _ _ _ _ _ _ _ _ _ _ ?_
      rintro z1 hz1 z2 hz2
      rw [hy] at hz1
      subst hz1
      (simp only [vcT, bif_tl, bif_fr, bif_tlf, bif_frf, Bool.not_eq_true', Bool.not_eq_false', decide_eq_true_eq, decide_eq_false_iff_not, beq_iff_eq, beq_eq_false_iff_ne, bne_iff_ne, ne_eq, bne_eq_false_iff_eq, Bool.or_eq_true, Bool.and_eq_true, Bool.or_eq_false_iff, Bool.and_eq_false_imp])
      refine ⟨fun hg => absurd hg.1 (by omega), fun _ => ?_⟩
      refine loop_rule (ι := Int × Int) (fun s => head84_2 e t i s.1 s.2 out) (fun s => (0 ≤ s.1 ∧ s.1 ≤ z1.l.length) ∧ s.2 = at_ + s.1 ∧ s.2 ≤ t.kids.length ∧ ∀ j : Nat, (j : Int) < s.1 → normT (t.kids.getD (at_.toNat + j) Tree.nil) = normT (z1.l.getD j Tree.nil)) (fun s => ((z1.l.length : Int) - s.1).toNat) (0, at_) rfl ⟨by simp, by simp, by simp; omega, fun j hj => by simp at hj; omega⟩ ?_
      rintro ⟨q, a⟩ ⟨⟨c1, c2⟩, c3, c4, c5⟩
      dsimp only at c1 c2 c3 c4 c5
      refine vc84_l2 _ _ _ _ _ _ _ _ _ _ ?_
      rintro w1 hw1 w2 hw2 w3 hw3 w4 hw4 w5 hw5 w6 hw6 w7 hw7
      rw [hy] at hw1
      subst hw1 hw3 hw6
      (simp only [vcT, bif_tl, bif_fr, bif_tlf, bif_frf, Bool.not_eq_true', Bool.not_eq_false', decide_eq_true_eq, decide_eq_false_iff_not, beq_iff_eq, beq_eq_false_iff_ne, bne_iff_ne, ne_eq, bne_eq_false_iff_eq, Bool.or_eq_true, Bool.and_eq_true, Bool.or_eq_false_iff, Bool.and_eq_false_imp])
      have bad : goneD w1.l (t.kids.drop at_.toNat) = false → lstD true e t = none := by
        intro h
        rw [h, if_neg (by simp)] at f3
        exact f3.symm
      have m2 := mass_kid t.kids a.toNat
      have m5 := mass_kid w1.l q.toNat
      rw [← hw2] at m2
      rw [← hw5] at m5
      refine ⟨fun hq => ⟨fun h => absurd h (by omega), fun _ => ⟨fun _ => by omega, fun _ => by omega, fun _ => by simp only [pre36]; omega, fun h => no (bad ?_), fun h => ⟨by unfold InR; omega, by unfold InR; omega, (q + 1, a + 1), rfl, ⟨by dsimp only; omega, by dsimp only; omega, by dsimp only; omega, fun j hj => ?_⟩, by dsimp only; omega⟩⟩⟩, fun hq => ⟨fun h => absurd h (by omega), fun _ => ⟨by unfold InR; omega, ?_⟩⟩⟩
      · unfold goneD
        by_cases hx : w1.l.length ≤ (t.kids.drop at_.toNat).length
        · rw [decide_eq_true hx, Bool.true_and]
          refine eqX_no fun hh => ?_
          have h3 : sameT (normT w3) (normT w6) = false := by
            rcases h with h | h
            · omega
            · exact h
          rw [sameT_false] at h3
          apply h3
          have := getD_map_eq (d := Tree.nil) hh q.toNat
          rw [hw2, hw5, this, List.getD_eq_getElem?_getD, List.getD_eq_getElem?_getD, List.getElem?_take, if_pos (by omega), List.getElem?_drop, show at_.toNat + q.toNat = a.toNat by omega]
        · rw [decide_eq_false hx]; rfl
      · by_cases hj2 : (j : Int) < q
        · exact c5 j hj2
        · have e1 : at_.toNat + j = a.toNat := by dsimp only at hj; omega
          have e2 : j = q.toNat := by dsimp only at hj; omega
          rw [e1, e2, ← hw2, ← hw5]
          exact sameT_true.1 h.2
      · have hq : q = w1.l.length := by omega
        subst hq
        have good : goneD w1.l (t.kids.drop at_.toNat) = true := by
          unfold goneD
          rw [decide_eq_true (by omega), Bool.true_and, eqX_iff]
          refine map_eq_getD Tree.nil (by rw [List.length_take]; omega) fun j hj => ?_
          rw [← c5 j (by omega), List.getD_eq_getElem?_getD, List.getD_eq_getElem?_getD, List.getElem?_take, if_pos hj, List.getElem?_drop]
        rw [good, if_pos rfl, Option.bind_some, List.drop_drop, show at_.toNat + w1.l.length = a.toNat by omega] at f3
        dsimp only at f3
        exact fin _ _ (by omega) f3 (by omega) _ rfl
    · -- kids come
      rw [if_neg (by omega), if_neg (by omega), if_pos k2, Option.bind_some] at f3
      refine loop_rule (ι := Unit) (fun _ => head84_1 e t i at_ 0 out) (fun _ => True) (fun _ => 0) () rfl trivial ?_
      intro _ _
      refine vc84_l1 _ _ _ _ _ _ _ _ _ _ ?_
      rintro z1 hz1 z2 hz2
      rw [hy] at hz1
      subst hz1
      (simp only [vcT, bif_tl, bif_fr, bif_tlf, bif_frf, Bool.not_eq_true', Bool.not_eq_false', decide_eq_true_eq, decide_eq_false_iff_not, beq_iff_eq, beq_eq_false_iff_ne, bne_iff_ne, ne_eq, bne_eq_false_iff_eq, Bool.or_eq_true, Bool.and_eq_true, Bool.or_eq_false_iff, Bool.and_eq_false_imp])
      refine ⟨fun hg => absurd hg.1 (by omega), fun _ => ?_⟩
      refine loop_rule (ι := Int × List Tree) (fun s => head84_2 e t i s.1 at_ s.2) (fun s => (0 ≤ s.1 ∧ s.1 ≤ z1.l.length) ∧ s.2 = out ++ z1.l.take s.1.toNat) (fun s => ((z1.l.length : Int) - s.1).toNat) (0, out) rfl ⟨by simp, by simp⟩ ?_
      rintro ⟨q, m⟩ ⟨⟨c1, c2⟩, c5⟩
      dsimp only at c1 c2 c5
      refine vc84_l2 _ _ _ _ _ _ _ _ _ _ ?_
      rintro w1 hw1 w2 hw2 w3 hw3 w4 hw4 w5 hw5 w6 hw6 w7 hw7
      rw [hy] at hw1
      subst hw1 hw6
      (simp only [vcT, bif_tl, bif_fr, bif_tlf, bif_frf, Bool.not_eq_true', Bool.not_eq_false', decide_eq_true_eq, decide_eq_false_iff_not, beq_iff_eq, beq_eq_false_iff_ne, bne_iff_ne, ne_eq, bne_eq_false_iff_eq, Bool.or_eq_true, Bool.and_eq_true, Bool.or_eq_false_iff, Bool.and_eq_false_imp])
      have hlen : (m.length : Int) ≤ out.length + q := by rw [c5]; simp only [List.length_append, List.length_take]; omega
      refine ⟨fun hq => ⟨fun _ => ⟨by omega, by simp only [List.length_singleton]; omega, by unfold InR; omega, (q + 1, m ++ [w6]), rfl, ⟨by dsimp only; omega, ?_⟩, by dsimp only; omega⟩, fun h => absurd k2 h⟩, fun hq => ⟨fun h => absurd h (by omega), fun _ => ⟨by unfold InR; omega, ?_⟩⟩⟩
      · dsimp only
        rw [show (q + 1).toNat = q.toNat + 1 by omega, take_snoc (by omega) Tree.nil, ← hw5, c5, List.append_assoc]
      · rw [show q.toNat = w1.l.length by omega, List.take_length] at c5
        rw [← c5] at f3
        dsimp only at f3
        exact fin _ _ (by omega) f3 (by omega) _ rfl
    · -- what is within a kid
      rw [if_neg (by omega), if_neg (by omega), if_neg (by omega)] at f3
      refine loop_rule (ι := Unit) (fun _ => head84_1 e t i at_ 0 out) (fun _ => True) (fun _ => 0) () rfl trivial ?_
      intro _ _
      refine vc84_l1 _ _ _ _ _ _ _ _ _ _ ?_
      rintro z1 hz1 z2 hz2
      rw [hy] at hz1
      subst hz1
      (simp only [vcT, bif_tl, bif_fr, bif_tlf, bif_frf, Bool.not_eq_true', Bool.not_eq_false', decide_eq_true_eq, decide_eq_false_iff_not, beq_iff_eq, beq_eq_false_iff_ne, bne_iff_ne, ne_eq, bne_eq_false_iff_eq, Bool.or_eq_true, Bool.and_eq_true, Bool.or_eq_false_iff, Bool.and_eq_false_imp])
      refine ⟨fun hg => absurd hg.1 (by omega), fun _ => ?_⟩
      refine loop_rule (ι := Unit) (fun _ => head84_2 e t i 0 at_ out) (fun _ => True) (fun _ => 0) () rfl trivial ?_
      intro _ _
      refine vc84_l2 _ _ _ _ _ _ _ _ _ _ ?_
      rintro w1 hw1 w2 hw2 w3 hw3 w4 hw4 w5 hw5 w6 hw6 w7 hw7
      rw [hy] at hw1
      subst hw1 hw3
      rw [hl]
      (simp only [vcT, bif_tl, bif_fr, bif_tlf, bif_frf, Bool.not_eq_true', Bool.not_eq_false', decide_eq_true_eq, decide_eq_false_iff_not, beq_iff_eq, beq_eq_false_iff_ne, bne_iff_ne, ne_eq, bne_eq_false_iff_eq, Bool.or_eq_true, Bool.and_eq_true, Bool.or_eq_false_iff, Bool.and_eq_false_imp])
      have hz : w3 = (t.kids.drop at_.toNat).getD 0 Tree.nil := by rw [drop_getD', Nat.add_zero]; exact hw2
      have m2 := mass_kid t.kids at_.toNat
      have g2 := rng_kid rt.2.2 at_.toNat
      rw [← hw2] at m2 g2
      rw [← hw4] at hre hme hro
      refine ⟨fun h => absurd h (by simp), fun _ => ⟨fun _ => ⟨fun hx => no ?_, fun hx => ⟨by omega, by simp only [pre53]; exact ⟨⟨by omega, hro.2.2.2, _, hre⟩, by omega, g2⟩, by simp only [mu53]; omega, fun hne => no ?_, fun heq => ?_⟩⟩, fun h => absurd k3' h⟩⟩
      · rw [if_pos (by omega)] at f3
        exact f3.symm
      · rw [if_neg (by omega), ← hz, ← hw4] at f3
        have hne : doE true w4 w3 = none := by simpa using hne
        rw [hne] at f3
        exact f3.symm
      · obtain ⟨u, hu⟩ := Option.isSome_iff_exists.1 heq
        rw [hu] at hw7
        have e7 : w7 = u := hw7
        subst e7
        rw [if_neg (by omega), ← hz, ← hw4, hu, Option.map_some, Option.bind_some, List.drop_drop, show at_.toNat + 1 = (at_ + 1).toNat by omega] at f3
        dsimp only at f3
        exact ⟨by simp only [List.length_singleton]; omega, by unfold InR; omega, by unfold InR; omega, fin _ _ (by omega) f3 (by simp only [List.length_append, List.length_singleton]; omega) _ rfl⟩
  · rw [List.drop_of_length_le (by omega), doOs] at f3
    simp only [res84, ← f3, lstT, endD, Option.bind_some, hk]
    by_cases hr : at_ = t.kids.length
    · rw [if_pos (by rw [List.length_drop]; omega), hr]
      simp only [beq_self_eq_true]
      (repeat' (first | exact trivial | exact rfl | refine And.intro ?_ ?_))
    · rw [if_neg (by rw [List.length_drop]; omega), show (at_ == (t.kids.length : Int)) = false by rw [beq_eq_false_iff_ne]; omega]
      (repeat' (first | exact trivial | exact rfl | refine And.intro ?_ ?_))

theorem c53_ : Contract Try.prog cfg 53 spec53 ∧ Contract Try.prog cfg 83 spec83 ∧ Contract Try.prog cfg 84 spec84 := make53_ c31 c36 c115 c116 c117 b53 b83 b84
theorem c53 : Contract Try.prog cfg 53 spec53 := c53_.1

end Go.AM.Ytlahjnelghpmeaa

namespace Go.AM.Ytlahjnelghpmeaa
open Go.AM Go.Proofs

def args50 : ArgL (Tree × Unit) := (.cons (aEl .tree) .nil)
def pre50 (a : Tree × Unit) : Prop := small a.1 ∧ rng a.1
noncomputable def res50 (a : Tree × Unit) : V U := .c (.bool (goodT a.1))
noncomputable def spec50 : Fs U := fs args50 (fun a => [pre50 a]) res50

def args51 : ArgL (Unit) := .nil
def pre51 (a : Unit) : Prop := True
noncomputable def res51 (a : Unit) : V U := .c (.bool true)
noncomputable def spec51 : Fs U := fs args51 (fun a => [pre51 a]) res51

def args12 : ArgL (Edit × Tree × Unit) := (.cons (aEl .edit) (.cons (aEl .tree) .nil))
def pre12 (a : Edit × Tree × Unit) : Prop := (smallE a.1 ∧ rngE a.1) ∧ small a.2.1 ∧ rng a.2.1
noncomputable def res12 (a : Edit × Tree × Unit) : V U := .c (.bool true)
noncomputable def spec12 : Fs U := fs args12 (fun a => [pre12 a]) res12

noncomputable def know50 : List (FuncId × Fs U) := [(29, spec29), (47, spec47)]
def lv50 : Lives U := fun i => match i with
  | 0 => ([(1, [])], [((.loc 1), [])])
  | 1 => ([(2, [])], [])
  | _ => ([], [])
noncomputable abbrev A50 (p : List Nat) := awp cfg (know know50) (drawOk cfg (know know50)) Try.f50.ntmps lv50 (cd Try.f50 p)
theorem vc50 (t : Tree) (Q : AExit → LSt U → Prop) (h : ((pre29 ((Tree.mk (Tree.kind t) (Tree.words t) (Tree.kids t)), ())) ∧ (Tr ((decide (0 ≤ shallow (Tree.mk (Tree.kind t) (Tree.words t) (Tree.kids t)) 80 3000)) = true)) ∧ ((decide (0 ≤ shallow (Tree.mk (Tree.kind t) (Tree.words t) (Tree.kids t)) 80 3000)) = true → pre47 ((Tree.mk (Tree.kind t) (Tree.words t) (Tree.kids t)), 64, ())) ∧ ((Tr ((decide (0 ≤ shallow (Tree.mk (Tree.kind t) (Tree.words t) (Tree.kids t)) 80 3000)) = true))) ∧ (Tr ((bif (decide (0 ≤ shallow (Tree.mk (Tree.kind t) (Tree.words t) (Tree.kids t)) 80 3000)) then (rightT (Tree.mk (Tree.kind t) (Tree.words t) (Tree.kids t)) 64) else false) = true)) ∧ (Tr ((bif (decide (0 ≤ shallow (Tree.mk (Tree.kind t) (Tree.words t) (Tree.kids t)) 80 3000)) then (rightT (Tree.mk (Tree.kind t) (Tree.words t) (Tree.kids t)) 64) else false) = true)) ∧ ((Tr ((bif (decide (0 ≤ shallow (Tree.mk (Tree.kind t) (Tree.words t) (Tree.kids t)) 80 3000)) then (rightT (Tree.mk (Tree.kind t) (Tree.words t) (Tree.kids t)) 64) else false) = true))) ∧ (Q .ret (⟨[(2, .c (.bool (bif (bif (decide (0 ≤ shallow (Tree.mk (Tree.kind t) (Tree.words t) (Tree.kids t)) 80 3000)) then (rightT (Tree.mk (Tree.kind t) (Tree.words t) (Tree.kids t)) 64) else false) then (((Tree.kind t) : Int) != 10) else false)))], [], []⟩ : LSt U)))) :
    A50 [] (⟨[(0, .agg [.int .i64 (Tree.kind t), .slice (U := U) .u64 (Tree.words t) .unk, .slice (U := U) .tree (Tree.kids t) .unk])], [], []⟩ : LSt U) Q :=
  Eq.mpr (by kernel_rfl) h
def Body50 (t : Tree)  : Prop := awp cfg (know (know50)) (drawOk cfg (know (know50))) Try.f50.ntmps lv50 (cd Try.f50 []) (entry (args50.can (t, ())) []) (EndsQ cfg Try.f50.ntmps Try.f50.results.toList (res50 (t, ())) [])
theorem make50 (c29 : Contract Try.prog cfg 29 spec29) (c47 : Contract Try.prog cfg 47 spec47) (hb : ∀ (t : Tree) (_ : Unit), pre50 (t, ()) → Body50 t) : Contract Try.prog cfg 50 spec50 :=
  contract_flat (l := [(29, spec29), (47, spec47)]) cfgOk rfl (⟨c29, c47, trivial⟩) lv50 Try.func50 rfl rfl 1 (fun _ => rfl) (by decide) (fun ⟨t, _⟩ => hb t ())

noncomputable def know51 : List (FuncId × Fs U) := [(52, spec52)]
def lv51 : Lives U := fun i => match i with
  | 0 => ([], [])
  | 1 => ([(1, [])], [((.loc 1), [])])
  | 2 => ([(1, []), (2, []), (3, [])], [((.loc 1), []), ((.loc 2), [])])
  | 3 => ([(2, []), (3, []), (5, [])], [((.loc 2), [])])
  | 4 => ([(0, [])], [])
  | _ => ([], [])
noncomputable abbrev A51 (p : List Nat) := awp cfg (know know51) (drawOk cfg (know know51)) Try.f51.ntmps lv51 (cd Try.f51 p)
theorem vc51 (Q : AExit → LSt U → Prop) (h : ∀ y_1, y_1 = (Edit.mk 2 (Tree.mk 0 ([]) ([])) (Tree.mk 0 ([]) ([])) ([(WEdit.mk 0 1 5 6)]) ([]) 0 ([])) → ∀ y_2, y_2 = (Tree.words (orNil ((doE false y_1 (Tree.mk 1 ([5]) ([]))).map normT))) → (((pre52 (y_1, (Tree.mk 1 ([5]) ([])), ())) ∧ ((pre52 (y_1, (Tree.mk 1 ([7]) ([])), ())) ∧ ((Tr (((doE false y_1 (Tree.mk 1 ([5]) ([]))).isSome) = true)) ∧ ((Tr (((doE false y_1 (Tree.mk 1 ([5]) ([]))).isSome) = true))) ∧ (Tr ((bif ((doE false y_1 (Tree.mk 1 ([5]) ([]))).isSome) then (!((doE false y_1 (Tree.mk 1 ([7]) ([]))).isSome)) else false) = true)) ∧ (Tr ((bif ((doE false y_1 (Tree.mk 1 ([5]) ([]))).isSome) then (!((doE false y_1 (Tree.mk 1 ([7]) ([]))).isSome)) else false) = true)) ∧ (Tr ((bif ((doE false y_1 (Tree.mk 1 ([5]) ([]))).isSome) then (!((doE false y_1 (Tree.mk 1 ([7]) ([]))).isSome)) else false) = true)) ∧ ((Tr ((bif ((doE false y_1 (Tree.mk 1 ([5]) ([]))).isSome) then (!((doE false y_1 (Tree.mk 1 ([7]) ([]))).isSome)) else false) = true))) ∧ (Tr ((bif (bif ((doE false y_1 (Tree.mk 1 ([5]) ([]))).isSome) then (!((doE false y_1 (Tree.mk 1 ([7]) ([]))).isSome)) else false) then (((y_2.length : Int) : Int) == 1) else false) = true)) ∧ (Tr ((bif (bif ((doE false y_1 (Tree.mk 1 ([5]) ([]))).isSome) then (!((doE false y_1 (Tree.mk 1 ([7]) ([]))).isSome)) else false) then (((y_2.length : Int) : Int) == 1) else false) = true)) ∧ ((bif (bif ((doE false y_1 (Tree.mk 1 ([5]) ([]))).isSome) then (!((doE false y_1 (Tree.mk 1 ([7]) ([]))).isSome)) else false) then (((y_2.length : Int) : Int) == 1) else false) = true → (0 : Int) ≤ 0 ∧ 0 < (y_2.length : Int)) ∧ (Tr ((bif (bif ((doE false y_1 (Tree.mk 1 ([5]) ([]))).isSome) then (!((doE false y_1 (Tree.mk 1 ([7]) ([]))).isSome)) else false) then (((y_2.length : Int) : Int) == 1) else false) = true)) ∧ (Tr ((bif (bif ((doE false y_1 (Tree.mk 1 ([5]) ([]))).isSome) then (!((doE false y_1 (Tree.mk 1 ([7]) ([]))).isSome)) else false) then (((y_2.length : Int) : Int) == 1) else false) = true)) ∧ ((Tr ((bif (bif ((doE false y_1 (Tree.mk 1 ([5]) ([]))).isSome) then (!((doE false y_1 (Tree.mk 1 ([7]) ([]))).isSome)) else false) then (((y_2.length : Int) : Int) == 1) else false) = true))) ∧ (Q .ret (⟨[(0, .c (.bool (bif (bif (bif ((doE false y_1 (Tree.mk 1 ([5]) ([]))).isSome) then (!((doE false y_1 (Tree.mk 1 ([7]) ([]))).isSome)) else false) then (((y_2.length : Int) : Int) == 1) else false) then (((List.getD y_2 (Int.toNat 0) (0 : Int)) : Int) == 6) else false)))], [], []⟩ : LSt U))))))) :
    A51 [] (⟨[], [], []⟩ : LSt U) Q :=
  Eq.mpr (by kernel_rfl) (h _ rfl _ rfl)
def Body51  : Prop := awp cfg (know (know51)) (drawOk cfg (know (know51))) Try.f51.ntmps lv51 (cd Try.f51 []) (entry (args51.can (())) []) (EndsQ cfg Try.f51.ntmps Try.f51.results.toList (res51 (())) [])
theorem make51 (c52 : Contract Try.prog cfg 52 spec52) (hb : ∀ (_ : Unit), pre51 (()) → Body51 ) : Contract Try.prog cfg 51 spec51 :=
  contract_flat (l := [(52, spec52)]) cfgOk rfl (⟨c52, trivial⟩) lv51 Try.func51 rfl rfl 0 (fun _ => rfl) (by decide) (fun _ => hb  ())

noncomputable def know12 : List (FuncId × Fs U) := [(33, spec33), (37, spec37), (50, spec50), (51, spec51), (52, spec52), (53, spec53)]
def lv12 : Lives U := fun i => match i with
  | 0 => ([(2, []), (3, [])], [((.loc 2), []), ((.loc 3), [])])
  | 1 => ([(2, []), (3, []), (16, [])], [((.loc 2), []), ((.loc 3), [])])
  | 2 => ([(4, [])], [])
  | 3 => ([(2, []), (3, []), (5, []), (6, [])], [((.loc 2), []), ((.loc 3), []), ((.loc 5), [])])
  | 4 => ([(5, []), (6, []), (7, []), (8, [])], [((.loc 5), []), ((.loc 7), [])])
  | 5 => ([(4, [])], [])
  | _ => ([], [])
noncomputable abbrev A12 (p : List Nat) := awp cfg (know know12) (drawOk cfg (know know12)) Try.f12.ntmps lv12 (cd Try.f12 p)
theorem vc12 (e : Edit) (t : Tree) (Q : AExit → LSt U → Prop) (h : ∀ y_1, y_1 = (e) → ∀ y_2, y_2 = (t) → ∀ y_3, y_3 = ((orNil (doE true y_1 y_2))) → ∀ y_4, y_4 = ((orNil ((doE false y_1 y_2).map normT))) → ((pre50 (y_2, ())) ∧ (Tr ((!(!(goodT y_2))) = true)) ∧ ((!(!(goodT y_2))) = true → pre37 (y_1, ())) ∧ (Tr ((!(!(goodT y_2))) = true)) ∧ (((!(goodT y_2)) = false → (!(!(goodT y_2))) = true)) ∧ (((bif (!(goodT y_2)) then true else (!(good y_1))) = true → (pre51 (())) ∧ (Q .ret (⟨[(4, .c (.bool true))], [], []⟩ : LSt U))) ∧ ((bif (!(goodT y_2)) then true else (!(good y_1))) = false → (pre52 (y_1, y_2, ())) ∧ ((pre53 (y_1, y_2, ())) ∧ ((Tr ((((doE false y_1 y_2).isSome) == ((doE true y_1 y_2).isSome)) = true)) ∧ (Tr ((((doE false y_1 y_2).isSome) == ((doE true y_1 y_2).isSome)) = true)) ∧ ((((doE false y_1 y_2).isSome) == ((doE true y_1 y_2).isSome)) = true → pre33 (y_4, y_3, ())) ∧ ((Tr ((((doE false y_1 y_2).isSome) == ((doE true y_1 y_2).isSome)) = true))) ∧ ((bif (((doE false y_1 y_2).isSome) == ((doE true y_1 y_2).isSome)) then (sameT y_4 y_3) else false) = true → pre51 (())) ∧ ((Tr ((bif (((doE false y_1 y_2).isSome) == ((doE true y_1 y_2).isSome)) then (sameT y_4 y_3) else false) = true))) ∧ (Q .ret (⟨[(4, .c (.bool (bif (bif (((doE false y_1 y_2).isSome) == ((doE true y_1 y_2).isSome)) then (sameT y_4 y_3) else false) then true else false)))], [], []⟩ : LSt U)))))))) :
    A12 [] (⟨[(0, .agg [.int .i64 (Edit.kind e), .int .i64 (Tree.kind (Edit.old e)), .slice (U := U) .u64 (Tree.words (Edit.old e)) .unk, .slice (U := U) .tree (Tree.kids (Edit.old e)) .unk, .int .i64 (Tree.kind (Edit.new e)), .slice (U := U) .u64 (Tree.words (Edit.new e)) .unk, .slice (U := U) .tree (Tree.kids (Edit.new e)) .unk, .slice (U := U) .wedit (Edit.words e) .unk, .slice (U := U) .kid (Edit.kids e) .unk, .int .i64 (Edit.list e), .slice (U := U) .op (Edit.ops e) .unk]), (1, .agg [.int .i64 (Tree.kind t), .slice (U := U) .u64 (Tree.words t) .unk, .slice (U := U) .tree (Tree.kids t) .unk])], [], []⟩ : LSt U) Q :=
  Eq.mpr (by kernel_rfl) (h _ (reEdit_eq _) _ (reTree_eq _) _ (reTree_eq _) _ (reTree_eq _))
def Body12 (e : Edit) (t : Tree)  : Prop := awp cfg (know (know12)) (drawOk cfg (know (know12))) Try.f12.ntmps lv12 (cd Try.f12 []) (entry (args12.can (e, t, ())) []) (EndsQ cfg Try.f12.ntmps Try.f12.results.toList (res12 (e, t, ())) [])
theorem make12 (c33 : Contract Try.prog cfg 33 spec33) (c37 : Contract Try.prog cfg 37 spec37) (c50 : Contract Try.prog cfg 50 spec50) (c51 : Contract Try.prog cfg 51 spec51) (c52 : Contract Try.prog cfg 52 spec52) (c53 : Contract Try.prog cfg 53 spec53) (hb : ∀ (e : Edit) (t : Tree) (_ : Unit), pre12 (e, t, ()) → Body12 e t) : Contract Try.prog cfg 12 spec12 :=
  contract_flat (l := [(33, spec33), (37, spec37), (50, spec50), (51, spec51), (52, spec52), (53, spec53)]) cfgOk rfl (⟨c33, c37, c50, c51, c52, c53, trivial⟩) lv12 Try.func12 rfl rfl 2 (fun _ => rfl) (by decide) (fun ⟨e, t, _⟩ => hb e t ())

end Go.AM.Ytlahjnelghpmeaa

namespace Go.AM.Ytlahjnelghpmeaa
open Go.AM Go.Proofs

section
variable {α β : Type} {z : α} {f : β → Option α} {p : β → Int}
end

def RT_ (t : Tree) : Prop := (∃ d, rightT t d = true) ∧ rng t

end Go.AM.Ytlahjnelghpmeaa

namespace Go.AM.Ytlahjnelghpmeaa
open Go.AM Go.Proofs

theorem goodT_in {t : Tree} (h : goodT t = true) (hr : rng t) : mass t ≤ 1000000 ∧ RT_ t ∧ rightT t 64 = true ∧ t.kind ≠ 10 := by
  unfold goodT at h
  simp only [Bool.and_eq_true, decide_eq_true_eq] at h
  exact ⟨few_mass' h.1.1, ⟨⟨64, h.1.2⟩, hr⟩, h.1.2, h.2⟩

theorem c50 : Contract Try.prog cfg 50 spec50 := by
  refine make50 c29 c47 ?_
  intro t _ hp
  simp only [pre50] at hp
  refine vc50 _ _ ?_
  (simp only [Tree.eta, Edit.eta, Tree.kind_mk, Tree.words_mk, Tree.kids_mk])
  (simp only [vcT, bif_tl, bif_fr, bif_tlf, bif_frf, Bool.not_eq_true', Bool.not_eq_false', decide_eq_true_eq, decide_eq_false_iff_not, beq_iff_eq, beq_eq_false_iff_ne, bne_iff_ne, ne_eq, bne_eq_false_iff_eq, Bool.or_eq_true, Bool.and_eq_true, Bool.or_eq_false_iff, Bool.and_eq_false_imp])
  refine ⟨by simp only [pre29]; exact hp.1, fun h => by simp only [pre47]; exact ⟨few_mass' h, hp.2, by omega, by omega⟩, ends_bool rfl ?_⟩
  unfold goodT
  rw [Bool.eq_iff_iff]
  simp only [bif_fr, Bool.and_eq_true, decide_eq_true_eq, bne_iff_ne]

theorem c51 : Contract Try.prog cfg 51 spec51 := by
  refine make51 c52 ?_
  intro _ _
  refine vc51 _ ?_
  rintro y1 hy1 y2 hy2
  have e1 : doE false y1 (.mk 1 [5] []) = some (.mk 1 [6] []) := by rw [hy1]; rfl
  have e2 : doE false y1 (.mk 1 [7] []) = none := by rw [hy1]; rfl
  have hr : rightE y1 64 = true := by rw [hy1]; rfl
  have hm : massE y1 ≤ 1000000 := by rw [hy1]; decide
  have hn : rngE y1 := by
    rw [hy1]
    simp only [rngE, rngKs, rngOs]
    have z := rng_nilT
    refine ⟨by unfold isI; omega, z, z, ?_, by unfold isI; omega, trivial, trivial⟩
    intro x hx
    simp only [List.mem_singleton] at hx
    subst hx
    exact ⟨by unfold isI; decide, by decide, by unfold isW; decide, by unfold isW; decide⟩
  have hp : ∀ x : Int, 0 ≤ x ∧ x < 1000 → pre52 (y1, .mk 1 [x] [], ()) := by
    intro x hx
    simp only [pre52]
    refine ⟨⟨hm, hn, 64, hr⟩, by simp [mass, massK], ⟨by decide, ?_, trivial⟩⟩
    intro y hy
    simp only [List.mem_singleton] at hy
    omega
  rw [e1] at hy2
  rw [e1, e2]
  rw [show y2 = [6] by rw [hy2]; rfl]
  exact ⟨hp 5 (by omega), hp 7 (by omega), fun x => x, fun x => x, fun x => x, fun x => x, fun x => x, fun x => x, fun x => x, fun x => x, fun _ => by simp, fun x => x, fun x => x, fun x => x, ends_bool rfl rfl⟩

theorem good_in' {e : Edit} (h : good e = true) : massE e ≤ 3000 ∧ rightE e 64 = true := by
  simp only [good, Bool.and_eq_true, decide_eq_true_eq] at h
  exact ⟨few_massE h.1.1, h.1.2⟩
theorem pre52_of {e : Edit} {t : Tree} (hg : good e = true) (he : rngE e) (ht : mass t ≤ 1000000) (hr : rng t) : (massE e ≤ 1000000 ∧ rngE e ∧ ∃ d, rightE e d = true) ∧ mass t ≤ 100000000000 ∧ rng t := by
  obtain ⟨hm, hx⟩ := good_in' hg
  exact ⟨⟨by omega, he, 64, hx⟩, by omega, hr⟩
theorem orNil_mass {r : Bool} {e : Edit} {t : Tree} (he : massE e ≤ 1000000) (hr : ∃ d, rightE e d = true) (ht : mass t ≤ 100000000000) : mass (orNil (doE r e t)) ≤ 1000000000000 := by
  cases h : doE r e t with
  | none => simp [orNil, Tree.nil, mass, massK]
  | some u => exact doE_mass he hr ht h
theorem isSome_norm (o : Option Tree) : (o.map normT).isSome = o.isSome := by cases o <;> rfl

theorem c12 : Contract Try.prog cfg 12 spec12 := by
  refine make12 c33 c37 c50 c51 c52 c53 ?_
  intro e t _ hp
  simp only [pre12] at hp
  refine vc12 _ _ _ ?_
  rintro y1 hy1 y2 hy2 y3 hy3 y4 hy4
  subst hy1 hy2
  (simp only [vcT, bif_tl, bif_fr, bif_tlf, bif_frf, Bool.not_eq_true', Bool.not_eq_false', decide_eq_true_eq, decide_eq_false_iff_not, beq_iff_eq, beq_eq_false_iff_ne, bne_iff_ne, ne_eq, bne_eq_false_iff_eq, Bool.or_eq_true, Bool.and_eq_true, Bool.or_eq_false_iff, Bool.and_eq_false_imp])
  refine ⟨by simp only [pre50]; exact hp.2, fun _ => by simp only [pre37]; exact hp.1, fun _ => ⟨trivial, ends_bool rfl rfl⟩, fun hg => ?_⟩
  obtain ⟨g1, g2⟩ := (show goodT y2 = true ∧ good y1 = true from hg)
  obtain ⟨m, rt, _⟩ := goodT_in g1 hp.2.2
  have P := pre52_of g2 hp.1.2 m hp.2.2
  have e1 : (doE false y1 y2).isSome = (doE true y1 y2).isSome := by rw [doE_norm, isSome_norm]
  have e2 : y4 = y3 := by rw [hy4, hy3, doE_norm]
  have hm : mass y3 ≤ 1000000000000 := by rw [hy3]; exact orNil_mass P.1.1 P.1.2.2 P.2.1
  refine ⟨by simp only [pre52]; exact P, by simp only [pre53]; exact P, fun _ => by simp only [pre33]; rw [e2]; exact hm, fun _ => trivial, ends_bool rfl ?_⟩
  rw [e1, e2, sameT_self]
  simp

end Go.AM.Ytlahjnelghpmeaa
