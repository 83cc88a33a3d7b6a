import Derived.Test.YtpjenobkibfpcaaGreatZCG42b
import Derived.Test.YtpjenobkibfpcaaGreatZCL25m
import Derived.Test.YtpjenobkibfpcaaGreatZKB20g
import Derived.Test.YtpjenobkibfpcaaGreatZKB22b
import Derived.Test.YtpjenobkibfpcaaGreatZKG22c
set_option linter.unusedSimpArgs false
set_option linter.unusedVariables false
namespace Go.AM.YtpjenobkibfpcaaGreat
open Go.AM Go.Proofs
structure St42 (s : Tree) : Prop where
  r : rightT s 64 = true
  g : rng s
  n : normT s = s
  m : mass s ≤ 10000000000
theorem St42.rt {s : Tree} (h : St42 s) : RT_ s := ⟨⟨64, h.r⟩, h.g⟩
inductive Path : Tree → List Edit → Tree → Prop
  | nil {s} : St42 s → Path s [] s
  | cons {s e u fs w} : St42 s → reOk e → doE false e s = some u → Path (normT u) fs w → Path s (e :: fs) w
theorem Path.st {s w : Tree} {es : List Edit} (h : Path s es w) : St42 s ∧ St42 w := by
  induction h with
  | nil h => exact ⟨h, h⟩
  | cons h _ _ _ ih => exact ⟨h, ih.2⟩
theorem path_app {es fs : List Edit} {s w : Tree} : Path s (es ++ fs) w ↔ ∃ m, Path s es m ∧ Path m fs w := by
  constructor
  · induction es generalizing s with
    | nil => intro h; exact ⟨s, .nil h.st.1, h⟩
    | cons e es ih =>
      intro h
      cases h with
      | cons a b c d =>
        obtain ⟨m, h1, h2⟩ := ih d
        exact ⟨m, .cons a b c h1, h2⟩
  · rintro ⟨m, h1, h2⟩
    induction h1 with
    | nil _ => exact h2
    | cons a b c _ ih => exact .cons a b c (ih h2)
theorem path_one {e : Edit} {s w : Tree} (h : Path s [e] w) : ∃ u, reOk e ∧ doE false e s = some u ∧ w = normT u := by
  cases h with
  | cons a b c d => cases d with
    | nil _ => exact ⟨_, b, c, rfl⟩
theorem step_ok {e : Edit} {s : Tree} (he : reOk e) (hs : St42 s) : stepOk e s := by
  have := reOk_mass he
  have := he.1
  have := hs.m
  exact ⟨⟨by omega, he.2⟩, by omega, hs.g⟩
theorem turn_re {e : Edit} (he : reOk e) : reOk (nrmE (turnE e)) := (turn_ok he).2
theorem step_fwd {e : Edit} {s u : Tree} (h : doE false e s = some u) (hr : rightT (normT u) 64 = true) : stepN e s = (normT u, 0) := by
  unfold stepN
  rw [h]
  exact if_pos hr
theorem step_ne {e : Edit} {s : Tree} (h : (stepN e s).2 ≠ 0) : (stepN e s).1 = s := by
  unfold stepN at h ⊢
  split
  · rfl
  · rename_i u hu
    rw [hu] at h
    dsimp only at h
    split
    · rename_i hr
      rw [if_pos hr] at h
      exact absurd rfl h
    · rfl
theorem step_bwd {e : Edit} {s u : Tree} (he : reOk e) (hs : St42 s) (hw : St42 (normT u)) (h : doE false e s = some u) : stepN (nrmE (turnE e)) (normT u) = (s, 0) := by
  obtain ⟨_, g, d, r⟩ := he
  obtain ⟨z, h1, h2⟩ := turn_fwd r g hs.rt hw.rt h (show Eqv u (normT u) from (normT_idem u).symm)
  have h2 : normT z = normT s := h2
  rw [hs.n] at h2
  rw [step_fwd h1 (by rw [h2]; exact hs.r), h2]
theorem undo_path {t m : Tree} {es gs : List Edit} {e : Edit} (h : Path t (es ++ [e]) m) : ∃ s, Path t es s ∧ Path s [e] m ∧ undoN ⟨m, es ++ [e], gs⟩ = (⟨s, es, gs ++ [e]⟩, true) := by
  obtain ⟨s, h1, h2⟩ := path_app.1 h
  obtain ⟨u, he, hu, rfl⟩ := path_one h2
  refine ⟨s, h1, h2, ?_⟩
  have hl : lastE (es ++ [e]) = e := by simp [lastE]
  have hb := step_bwd he h1.st.2 h.st.2 hu
  unfold undoN
  rw [if_neg (by simp)]
  dsimp only
  rw [hl, hb, if_pos rfl]
  simp
theorem redo_path {s w : Tree} {es fs gs : List Edit} {e : Edit} (h : Path s (e :: fs) w) : ∃ m, Path s [e] m ∧ Path m fs w ∧ redoN ⟨s, es, gs ++ [e]⟩ = (⟨m, es ++ [e], gs⟩, true) := by
  cases h with
  | cons a b c d =>
    rename_i u
    refine ⟨normT u, .cons a b c (.nil d.st.1), d, ?_⟩
    have hl : lastE (gs ++ [e]) = e := by simp [lastE]
    have hf := step_fwd c d.st.1.r
    unfold redoN
    rw [if_neg (by simp)]
    dsimp only
    rw [hl, hf, if_pos rfl]
    simp
end Go.AM.YtpjenobkibfpcaaGreat

namespace Go.AM.YtpjenobkibfpcaaGreat
open Go.AM Go.Proofs
theorem c84 : Contract Tryz.prog cfg 84 spec84 := by
  refine make84 ?_
  intro l _ hp
  simp only [pre84] at hp
  refine vc84 _ _ ⟨fun h => ?_, fun _ => ⟨by simp only [List.length_nil]; omega, ?_⟩⟩
  · subst h
    simp only [res84]
    (repeat' (first | exact trivial | exact rfl | apply And.intro))
  · simp only [res84, List.nil_append]
    (repeat' (first | exact trivial | exact rfl | apply And.intro))
theorem c33 : Contract Tryz.prog cfg 33 spec33 := by
  refine make33 c82 c75 ?_
  intro t _ hp
  obtain ⟨⟨h1, h2⟩, h3, h4⟩ := hp
  dsimp only at h1 h2 h3 h4
  refine vc33 _ _ ?_
  (simp only [Tree.eta, Edit.eta, Tree.kind_mk, Tree.words_mk, Tree.kids_mk])
  (simp only [vcT, vcS])
  refine ⟨⟨h1, h2⟩, fun h => ?_, fun _ => ⟨by show mass t ≤ _; omega, ?_⟩⟩
  · rcases h with h | h
    · rw [h3] at h; cases h
    · exact absurd h h4
  · simp only [res33]
    (repeat' (first | exact trivial | exact rfl | apply And.intro))
theorem c35 : Contract Tryz.prog cfg 35 spec35 := by
  refine make35 ?_
  intro hk hw hc hd hg _ _
  refine vc35 _ _ _ _ _ _ ⟨(fun h => by cases h), fun _ => ?_⟩
  simp only [res35, resX35]
  (repeat' (first | exact trivial | exact rfl | apply And.intro))
theorem c83 : Contract Tryz.prog cfg 83 spec83 := by
  refine make83 c25 c82 ?_
  intro hk hw hc hd hg e _ hp
  obtain ⟨⟨h1, h2, d, h3⟩, h4, h5⟩ := hp
  dsimp only at h1 h2 h3 h4 h5
  refine vc83 _ _ _ _ _ _ _ ?_
  rintro y1 rfl y2 e2
  (simp only [vcT, vcS])
  have fin : ∀ {r : Tree × Int} {s : LSt U}, stepN y1 (.mk hk hw hc) = r → EndsQ cfg Tryz.f83.ntmps Tryz.f83.results.toList (.c (.int .i64 r.2)) [[.int .i64 r.1.kind, .slice .u64 r.1.words .unk, .slice .tree r.1.kids .unk, .slice .edit hd .unk, .slice .edit hg .unk]] .ret s →
      EndsQ cfg Tryz.f83.ntmps Tryz.f83.results.toList (res83 ((hk, hw, hc, hd, hg, ()), y1, ())) (resX83 ((hk, hw, hc, hd, hg, ()), y1, ())) .ret s := by
    intro r s h hs
    subst h
    exact hs
  refine ⟨⟨⟨h1, h2, d, h3⟩, by dsimp only; omega, h5⟩, fun hn => ?_, fun hs => ?_⟩
  · cases hu : doE false y1 (.mk hk hw hc) with
    | some u => rw [hu] at hn; cases hn
    | none => exact fin (r := (.mk hk hw hc, 13)) (by unfold stepN; rw [hu]) (by (repeat' (first | exact trivial | exact rfl | apply And.intro)))
  · obtain ⟨u, hu⟩ := someT_of hs
    have e3 : y2 = normT u := by rw [e2, hu]; rfl
    rw [e3]
    have hm := mass_do false _ d _ _ h3 hu
    have hm2 := normT_mass u
    refine ⟨⟨by dsimp only; omega, rng_norm _ (rng_do false _ _ _ h2 h5 hu)⟩, fun hr => ?_, fun hr => ?_⟩
    · exact fin (r := (.mk hk hw hc, 3)) (by unfold stepN; rw [hu]; exact if_neg (by rw [hr]; decide)) (by (repeat' (first | exact trivial | exact rfl | apply And.intro)))
    · rw [hu]
      exact fin (r := (normT u, 0)) (step_fwd hu hr) (by (repeat' (first | exact trivial | exact rfl | apply And.intro)))
theorem c36 : Contract Tryz.prog cfg 36 spec36 := by
  refine make36 c28 c67_76.1 c83 c84 ?_
  intro hk hw hc hd hg e _ hp
  obtain ⟨⟨h1, h2⟩, h3⟩ := hp
  dsimp only at h1 h2 h3
  refine vc36 _ _ _ _ _ _ _ ?_
  rintro y1 rfl y2 rfl
  (simp only [vcT, vcS])
  have fin : ∀ {r : Hist × Int} {s : LSt U}, doN y1 ⟨.mk hk hw hc, hd, hg⟩ = r → EndsQ cfg Tryz.f36.ntmps Tryz.f36.results.toList (.c (.int .i64 r.2)) [[.int .i64 r.1.now.kind, .slice .u64 r.1.now.words .unk, .slice .tree r.1.now.kids .unk, .slice .edit r.1.done .unk, .slice .edit r.1.gone .unk]] .ret s →
      EndsQ cfg Tryz.f36.ntmps Tryz.f36.results.toList (res36 ((hk, hw, hc, hd, hg, ()), y1, ())) (resX36 ((hk, hw, hc, hd, hg, ()), y1, ())) .ret s := by
    intro r s h hs
    subst h
    exact hs
  refine ⟨(fun h => by cases h), h1, fun hr => ?_, fun hr => ?_⟩
  · exact fin (r := (⟨.mk hk hw hc, hd, hg⟩, 2)) (by unfold doN; exact if_neg (by rw [hr]; decide)) (by (repeat' (first | exact trivial | exact rfl | apply And.intro)))
  · refine ⟨⟨by dsimp only; omega, 64, hr⟩, h2 hr, fun h0 => ?_, fun h0 => ⟨by dsimp only [pre84]; omega, by simp only [List.length_cons, List.length_nil]; omega, ?_⟩⟩
    · rw [step_ne h0]
      exact fin (r := (⟨.mk hk hw hc, hd, hg⟩, (stepN (nrmE y1) (.mk hk hw hc)).2)) (by unfold doN; rw [if_pos hr]; exact if_neg h0) (by (repeat' (first | exact trivial | exact rfl | apply And.intro)))
    · exact fin (r := (⟨(stepN (nrmE y1) (.mk hk hw hc)).1, hd ++ [nrmE y1], []⟩, 0)) (by unfold doN; rw [if_pos hr]; exact if_pos h0) (by (repeat' (first | exact trivial | exact rfl | apply And.intro)))
theorem last_at (l : List Edit) : l.getD (((l.length : Int) - 1).toNat) Edit.nil = lastE l := by
  unfold lastE
  congr 1
  omega
theorem lastE_mem {l : List Edit} (h : l.length ≠ 0) : lastE l ∈ l := mem_getD (by omega) _
theorem c37 : Contract Tryz.prog cfg 37 spec37 := by
  refine make37 c83 c84 c85 ?_
  intro hk hw hc hd hg _ hp
  obtain ⟨h1, h2, h3⟩ := hp
  dsimp only at h1 h2 h3
  refine vc37 _ _ _ _ _ _ ?_
  rintro y1 h1' y2 rfl y3 rfl
  rw [last_at] at h1'
  subst h1'
  (simp only [vcT, vcS])
  have fin : ∀ {r : Hist × Bool} {s : LSt U}, undoN ⟨.mk hk hw hc, hd, hg⟩ = r → EndsQ cfg Tryz.f37.ntmps Tryz.f37.results.toList (.c (.bool r.2)) [[.int .i64 r.1.now.kind, .slice .u64 r.1.now.words .unk, .slice .tree r.1.now.kids .unk, .slice .edit r.1.done .unk, .slice .edit r.1.gone .unk]] .ret s →
      EndsQ cfg Tryz.f37.ntmps Tryz.f37.results.toList (res37 ((hk, hw, hc, hd, hg, ()), ())) (resX37 ((hk, hw, hc, hd, hg, ()), ())) .ret s := by
    intro r s h hs
    subst h
    exact hs
  have hne : ¬(hd.length : Int) = 0 → lastE hd ∈ hd := fun h => lastE_mem (by omega)
  refine ⟨fun h => ?_, fun h => ⟨by unfold InR; omega, ⟨by omega, by omega⟩, (h1 _ (hne h)).1, (h1 _ (hne h)).2, fun h0 => ?_, fun h0 => ⟨⟨by omega, by omega⟩, by dsimp only [pre84]; omega, by simp only [List.length_cons, List.length_nil]; omega, ?_⟩⟩⟩
  · have h : hd.length = 0 := by rcases h with h | h; cases h; omega
    exact fin (r := (⟨.mk hk hw hc, hd, hg⟩, false)) (by unfold undoN; exact if_pos h) (by (repeat' (first | exact trivial | exact rfl | apply And.intro)))
  · rw [step_ne h0]
    exact fin (r := (⟨.mk hk hw hc, hd, hg⟩, false)) (by unfold undoN; rw [if_neg (by dsimp only; omega)]; exact if_neg h0) (by (repeat' (first | exact trivial | exact rfl | apply And.intro)))
  · rw [show (((hd.length : Int) - 1).toNat) = hd.length - 1 by omega]
    exact fin (r := (⟨(stepN (nrmE (turnE (lastE hd))) (.mk hk hw hc)).1, hd.take (hd.length - 1), hg ++ [lastE hd]⟩, true)) (by unfold undoN; rw [if_neg (by dsimp only; omega)]; exact if_pos h0) (by (repeat' (first | exact trivial | exact rfl | apply And.intro)))
theorem c38 : Contract Tryz.prog cfg 38 spec38 := by
  refine make38 c83 c84 ?_
  intro hk hw hc hd hg _ hp
  obtain ⟨h1, h2, h3⟩ := hp
  dsimp only at h1 h2 h3
  refine vc38 _ _ _ _ _ _ ?_
  rintro y1 h1' y2 rfl
  rw [last_at] at h1'
  subst h1'
  (simp only [vcT, vcS])
  have fin : ∀ {r : Hist × Bool} {s : LSt U}, redoN ⟨.mk hk hw hc, hd, hg⟩ = r → EndsQ cfg Tryz.f38.ntmps Tryz.f38.results.toList (.c (.bool r.2)) [[.int .i64 r.1.now.kind, .slice .u64 r.1.now.words .unk, .slice .tree r.1.now.kids .unk, .slice .edit r.1.done .unk, .slice .edit r.1.gone .unk]] .ret s →
      EndsQ cfg Tryz.f38.ntmps Tryz.f38.results.toList (res38 ((hk, hw, hc, hd, hg, ()), ())) (resX38 ((hk, hw, hc, hd, hg, ()), ())) .ret s := by
    intro r s h hs
    subst h
    exact hs
  have hne : ¬(hg.length : Int) = 0 → lastE hg ∈ hg := fun h => lastE_mem (by omega)
  refine ⟨fun h => ?_, fun h => ⟨by unfold InR; omega, ⟨by omega, by omega⟩, h1 _ (hne h), fun h0 => ?_, fun h0 => ⟨by dsimp only [pre84]; omega, by simp only [List.length_cons, List.length_nil]; omega, ⟨by omega, by omega⟩, ?_⟩⟩⟩
  · have h : hg.length = 0 := by rcases h with h | h; cases h; omega
    exact fin (r := (⟨.mk hk hw hc, hd, hg⟩, false)) (by unfold redoN; exact if_pos h) (by (repeat' (first | exact trivial | exact rfl | apply And.intro)))
  · rw [step_ne h0]
    exact fin (r := (⟨.mk hk hw hc, hd, hg⟩, false)) (by unfold redoN; rw [if_neg (by dsimp only; omega)]; exact if_neg h0) (by (repeat' (first | exact trivial | exact rfl | apply And.intro)))
  · rw [show (((hg.length : Int) - 1).toNat) = hg.length - 1 by omega]
    exact fin (r := (⟨(stepN (lastE hg) (.mk hk hw hc)).1, hd ++ [lastE hg], hg.take (hg.length - 1)⟩, true)) (by unfold redoN; rw [if_neg (by dsimp only; omega)]; exact if_pos h0) (by (repeat' (first | exact trivial | exact rfl | apply And.intro)))
end Go.AM.YtpjenobkibfpcaaGreat

namespace Go.AM.YtpjenobkibfpcaaGreat
open Go.AM Go.Proofs
def atT (n : Int) : Tree := .mk 1 [n] []
def setE : Edit := .mk 2 Tree.nil Tree.nil [⟨0, 1, 1, 2⟩] [] 0 []
theorem set_do : doE false setE (atT 1) = some (atT 2) := by
  unfold setE atT
  rw [do_2m, if_pos (show (Tree.mk 1 [1] []).kind = 1 from rfl)]
  rfl
theorem set_ok : reOk setE ∧ rightE setE 64 = true ∧ nrmE setE = setE := by
  have z := rng_nilT'
  have i0 : isI 0 := isI_n (by decide) (by decide)
  refine ⟨⟨by decide, ⟨isI_n (by decide) (by decide), z, z, fun w hw => ?_, i0, trivial, trivial⟩, 64, rfl⟩, rfl, ?_⟩
  · rw [List.mem_singleton.1 hw]
    exact ⟨isI_n (by decide) (by decide), ⟨by decide, by decide⟩, ⟨by decide, by decide⟩, ⟨by decide, by decide⟩⟩
  · unfold setE
    rw [nrmE_2]
    rfl
theorem at_st {n : Int} (h : n = 1 ∨ n = 2) : St42 (atT n) := by
  have g : ∀ n : Int, isW n → rng (atT n) := fun n hw => ⟨isI_n (by decide) (by decide), fun x hx => by rw [List.mem_singleton.1 hx]; exact hw, trivial⟩
  rcases h with rfl | rfl
  · exact ⟨rfl, g 1 ⟨by decide, by decide⟩, rfl, by decide⟩
  · exact ⟨rfl, g 2 ⟨by decide, by decide⟩, rfl, by decide⟩
theorem c32 : Contract Tryz.prog cfg 32 spec32 := by
  refine make32 c33 c35 c36 c37 c38 ?_
  intro _ _
  refine vc32 _ ?_
  rintro y1 e1 y2 e2 y3 e3 y4 e4 y5 e5 y6 rfl y7 e7 y8 rfl y9 e9 y10 e10 y11 e11
  have s1 := at_st (n := 1) (.inl rfl)
  have s2 := at_st (n := 2) (.inr rfl)
  have P : Path (atT 1) [setE] (atT 2) := .cons s1 set_ok.1 set_do (.nil s2)
  have d : doN setE ⟨atT 1, [], []⟩ = (⟨atT 2, [setE], []⟩, 0) := by
    unfold doN
    rw [if_pos set_ok.2.1, set_ok.2.2, step_fwd set_do s2.r, if_pos rfl]
    rfl
  have u : undoN ⟨atT 2, [setE], []⟩ = (⟨atT 1, [], [setE]⟩, true) := by
    obtain ⟨s, h1, _, h2⟩ := undo_path (es := []) (gs := []) P
    cases h1
    exact h2
  have r : redoN ⟨atT 1, [], [setE]⟩ = (⟨atT 2, [setE], []⟩, true) := by
    obtain ⟨m, h1, h3, h2⟩ := redo_path (es := []) (gs := []) P
    cases h3
    exact h2
  have e1 : y1 = atT 1 := e1
  have e2 : y2 = setE := e2
  subst e1 e2
  rw [d] at e3 e4 e5 ⊢
  subst e3 e4 e5
  dsimp only at e7 e10 ⊢
  rw [u] at e7 e10 ⊢
  subst e7
  dsimp only at e9 e10 ⊢
  subst e10
  rw [r] at e11 ⊢
  subst e11 e9
  refine ⟨⟨⟨by decide, s1.g⟩, rfl, by decide⟩, ⟨⟨⟨by decide, set_ok.1.2.1⟩, fun _ => ?_⟩, by decide⟩, ⟨fun e he => ?_, by decide, by decide⟩, trivial, ⟨fun e he => ?_, by decide, by decide⟩, trivial, ?_⟩
  · show stepOk (nrmE setE) (atT 1)
    rw [set_ok.2.2]
    exact step_ok set_ok.1 s1
  · rw [List.mem_singleton.1 he]
    have := reOk_mass set_ok.1
    exact ⟨⟨by omega, 64, set_ok.2.1⟩, step_ok (turn_re set_ok.1) s2⟩
  · rw [List.mem_singleton.1 he]
    exact step_ok set_ok.1 s1
  · simp only [Tr]
    repeat' (first | exact (fun x => x) | exact (fun _ => ⟨by decide, by decide⟩) | exact ends_bool rfl rfl | apply And.intro)
end Go.AM.YtpjenobkibfpcaaGreat

namespace Go.AM.YtpjenobkibfpcaaGreat
open Go.AM Go.Proofs
def args1046 : ArgL (Unit × Unit) := (.cons (aNil) .nil)
def pre1046 (a : Unit × Unit) : Prop := True
noncomputable def res1046 (a : Unit × Unit) : V U := .tup [(false, [.int .i64 0]), (false, [.int .i64 0])]
noncomputable def spec1046 : Fs U := fs args1046 (fun a => [pre1046 a]) res1046
def args1035 : ArgL (Unit × Unit) := (.cons (aNil) .nil)
def pre1035 (a : Unit × Unit) : Prop := True
noncomputable def res1035 (a : Unit × Unit) : V U := .agg [.int .i64 (Tree.kind Tree.nil), .slice (U := U) .u64 (Tree.words Tree.nil) .unk, .slice (U := U) .tree (Tree.kids Tree.nil) .unk]
noncomputable def spec1035 : Fs U := fs args1035 (fun a => [pre1035 a]) res1035
def args1040 : ArgL (Unit × Unit) := (.cons (aNil) .nil)
def pre1040 (a : Unit × Unit) : Prop := True
noncomputable def res1040 (a : Unit × Unit) : V U := .agg [.int .i64 (Edit.kind Edit.nil), .int .i64 (Tree.kind (Edit.old Edit.nil)), .slice (U := U) .u64 (Tree.words (Edit.old Edit.nil)) .unk, .slice (U := U) .tree (Tree.kids (Edit.old Edit.nil)) .unk, .int .i64 (Tree.kind (Edit.new Edit.nil)), .slice (U := U) .u64 (Tree.words (Edit.new Edit.nil)) .unk, .slice (U := U) .tree (Tree.kids (Edit.new Edit.nil)) .unk, .slice (U := U) .wedit (Edit.words Edit.nil) .unk, .slice (U := U) .kid (Edit.kids Edit.nil) .unk, .int .i64 (Edit.list Edit.nil), .slice (U := U) .op (Edit.ops Edit.nil) .unk]
noncomputable def spec1040 : Fs U := fs args1040 (fun a => [pre1040 a]) res1040
def args1036 : ArgL (Unit × Edit × Unit) := (.cons (aNil) (.cons (aEl .edit) .nil))
def pre1036 (a : Unit × Edit × Unit) : Prop := True
noncomputable def res1036 (a : Unit × Edit × Unit) : V U := .c (.int .i64 1)
noncomputable def spec1036 : Fs U := fs args1036 (fun a => [pre1036 a]) res1036
def args1039 : ArgL (Unit × Int × Unit) := (.cons (aNil) (.cons (aInt .i64) .nil))
def pre1039 (a : Unit × Int × Unit) : Prop := True
noncomputable def res1039 (a : Unit × Int × Unit) : V U := .c (.int .i64 1)
noncomputable def spec1039 : Fs U := fs args1039 (fun a => [pre1039 a]) res1039
def args1037 : ArgL (Unit × Unit) := (.cons (aNil) .nil)
def pre1037 (a : Unit × Unit) : Prop := True
noncomputable def res1037 (a : Unit × Unit) : V U := .c (.bool false)
noncomputable def spec1037 : Fs U := fs args1037 (fun a => [pre1037 a]) res1037
def args1038 : ArgL (Unit × Unit) := (.cons (aNil) .nil)
def pre1038 (a : Unit × Unit) : Prop := True
noncomputable def res1038 (a : Unit × Unit) : V U := .c (.bool false)
noncomputable def spec1038 : Fs U := fs args1038 (fun a => [pre1038 a]) res1038
def args8 : ArgL (Deed × Unit) := (.cons (aEl .deed) .nil)
def pre8 (a : Deed × Unit) : Prop := smallE (Deed.e a.1) ∧ rngE (Deed.e a.1)
noncomputable def res8 (a : Deed × Unit) : V U := .c (.bool true)
noncomputable def spec8 : Fs U := fs args8 (fun a => [pre8 a]) res8
noncomputable def know1046 : List (FuncId × Fs U) := []
def lv1046 : Lives U := fun i => match i with
  | 0 => ([(0, [])], [])
  | 1 => ([(0, []), (5, [])], [])
  | 2 => ([(2, []), (3, [])], [])
  | 3 => ([(2, []), (3, [])], [])
  | _ => ([], [])
noncomputable abbrev A1046 (p : List Nat) := awp cfg (know know1046) (drawOk cfg (know know1046)) Tryz.f46.ntmps lv1046 (cd Tryz.f46 p)
noncomputable abbrev S1046 (p : List Nat) := seqK cfg (know know1046) (drawOk cfg (know know1046)) Tryz.f46.ntmps lv1046 (cd Tryz.f46 p)
theorem vc1046 (z : Unit) (Q : AExit → LSt U → Prop) (h : ((((true) = true → (Q .ret (⟨[(2, .c (.int .i64 0)), (3, .c (.int .i64 0))], [], []⟩ : LSt U))) ∧ ((true) = false → A1046 [1, 0, 1, 1] (⟨[(0, .c (.nilp)), (5, .c (.bool true))], [], []⟩ : LSt U) (S1046 [1, 1] Q))))) :
    A1046 [] (⟨[(0, .c (.nilp))], [], []⟩ : LSt U) Q :=
  (Eq.mpr (by kernel_rfl) h :)
abbrev Body1046 (z : Unit)  : Prop := awp cfg (know (know1046)) (drawOk cfg (know (know1046))) Tryz.f46.ntmps lv1046 (cd Tryz.f46 []) (entry (args1046.can (z, ())) []) (EndsQ cfg Tryz.f46.ntmps Tryz.f46.results.toList (res1046 (z, ())) [])
theorem make1046 (hb : ∀ (z : Unit) (_ : Unit), pre1046 (z, ()) → Body1046 z) : Contract Tryz.prog cfg 46 spec1046 :=
  contract_flat (l := []) cfgOk rfl (trivial) lv1046 Tryz.func46 rfl rfl 1 (fun _ => rfl) (by decide) (fun ⟨z, _⟩ => hb z ())
noncomputable def know1035 : List (FuncId × Fs U) := []
def lv1035 : Lives U := fun i => match i with
  | 0 => ([(0, []), (2, [])], [((.loc 2), [])])
  | 1 => ([(0, []), (2, []), (4, [])], [((.loc 2), [])])
  | 2 => ([(2, [])], [((.loc 2), [])])
  | 3 => ([(2, [])], [])
  | _ => ([], [])
noncomputable abbrev A1035 (p : List Nat) := awp cfg (know know1035) (drawOk cfg (know know1035)) Tryz.f35.ntmps lv1035 (cd Tryz.f35 p)
noncomputable abbrev S1035 (p : List Nat) := seqK cfg (know know1035) (drawOk cfg (know know1035)) Tryz.f35.ntmps lv1035 (cd Tryz.f35 p)
theorem vc1035 (z : Unit) (Q : AExit → LSt U → Prop) (h : ((((true) = true → (Q .ret (⟨[(2, .ptr (.loc 2) 0)], [((.loc 2), [.int .i64 0, .nils, .nils])], []⟩ : LSt U))) ∧ ((true) = false → A1035 [1, 0, 1, 1] (⟨[(0, .c (.nilp)), (2, .ptr (.loc 2) 0), (4, .c (.bool true))], [((.loc 2), [.int .i64 0, .nils, .nils])], []⟩ : LSt U) (S1035 [1, 1] Q))))) :
    A1035 [] (⟨[(0, .c (.nilp))], [], []⟩ : LSt U) Q :=
  (Eq.mpr (by kernel_rfl) h :)
abbrev Body1035 (z : Unit)  : Prop := awp cfg (know (know1035)) (drawOk cfg (know (know1035))) Tryz.f35.ntmps lv1035 (cd Tryz.f35 []) (entry (args1035.can (z, ())) []) (EndsQ cfg Tryz.f35.ntmps Tryz.f35.results.toList (res1035 (z, ())) [])
theorem make1035 (hb : ∀ (z : Unit) (_ : Unit), pre1035 (z, ()) → Body1035 z) : Contract Tryz.prog cfg 35 spec1035 :=
  contract_flat (l := []) cfgOk rfl (trivial) lv1035 Tryz.func35 rfl rfl 1 (fun _ => rfl) (by decide) (fun ⟨z, _⟩ => hb z ())
noncomputable def know1040 : List (FuncId × Fs U) := []
def lv1040 : Lives U := fun i => match i with
  | 0 => ([(0, []), (2, [])], [((.loc 2), [])])
  | 1 => ([(0, []), (2, []), (6, [])], [((.loc 2), [])])
  | 2 => ([(2, [])], [((.loc 2), [])])
  | 3 => ([(2, []), (3, [])], [])
  | 4 => ([(2, [])], [])
  | _ => ([], [])
noncomputable abbrev A1040 (p : List Nat) := awp cfg (know know1040) (drawOk cfg (know know1040)) Tryz.f40.ntmps lv1040 (cd Tryz.f40 p)
noncomputable abbrev S1040 (p : List Nat) := seqK cfg (know know1040) (drawOk cfg (know know1040)) Tryz.f40.ntmps lv1040 (cd Tryz.f40 p)
theorem vc1040 (z : Unit) (Q : AExit → LSt U → Prop) (h : ((((true) = true → (Q .ret (⟨[(2, .ptr (.loc 2) 0)], [((.loc 2), [.int .i64 0, .int .i64 0, .nils, .nils, .int .i64 0, .nils, .nils, .nils, .nils, .int .i64 0, .nils])], []⟩ : LSt U))) ∧ ((true) = false → A1040 [1, 0, 1, 1] (⟨[(0, .c (.nilp)), (2, .ptr (.loc 2) 0), (6, .c (.bool true))], [((.loc 2), [.int .i64 0, .int .i64 0, .nils, .nils, .int .i64 0, .nils, .nils, .nils, .nils, .int .i64 0, .nils])], []⟩ : LSt U) (S1040 [1, 1] Q))))) :
    A1040 [] (⟨[(0, .c (.nilp))], [], []⟩ : LSt U) Q :=
  (Eq.mpr (by kernel_rfl) h :)
abbrev Body1040 (z : Unit)  : Prop := awp cfg (know (know1040)) (drawOk cfg (know (know1040))) Tryz.f40.ntmps lv1040 (cd Tryz.f40 []) (entry (args1040.can (z, ())) []) (EndsQ cfg Tryz.f40.ntmps Tryz.f40.results.toList (res1040 (z, ())) [])
theorem make1040 (hb : ∀ (z : Unit) (_ : Unit), pre1040 (z, ()) → Body1040 z) : Contract Tryz.prog cfg 40 spec1040 :=
  contract_flat (l := []) cfgOk rfl (trivial) lv1040 Tryz.func40 rfl rfl 1 (fun _ => rfl) (by decide) (fun ⟨z, _⟩ => hb z ())
noncomputable def know1036 : List (FuncId × Fs U) := []
def lv1036 : Lives U := fun i => match i with
  | 0 => ([(0, []), (3, [])], [((.loc 3), [])])
  | 1 => ([(0, []), (3, []), (6, [])], [((.loc 3), [])])
  | 2 => ([(4, [])], [])
  | 3 => ([(0, []), (3, []), (9, [])], [])
  | 4 => ([(4, [])], [])
  | 5 => ([(0, []), (3, [])], [])
  | 6 => ([(0, []), (3, []), (5, [])], [])
  | 7 => ([(0, []), (3, []), (5, []), (19, [])], [])
  | 8 => ([(4, [])], [])
  | 9 => ([], [])
  | 10 => ([(4, [])], [])
  | _ => ([], [])
noncomputable abbrev A1036 (p : List Nat) := awp cfg (know know1036) (drawOk cfg (know know1036)) Tryz.f36.ntmps lv1036 (cd Tryz.f36 p)
noncomputable abbrev S1036 (p : List Nat) := seqK cfg (know know1036) (drawOk cfg (know know1036)) Tryz.f36.ntmps lv1036 (cd Tryz.f36 p)
theorem vc1036 (z : Unit) (e : Edit) (Q : AExit → LSt U → Prop) (h : ((((true) = true → (Q .ret (⟨[(4, .c (.int .i64 1))], [], []⟩ : LSt U))) ∧ ((true) = false → A1036 [1, 0, 0, 1, 1] (⟨[(0, .c (.nilp)), (3, .ptr (.loc 3) 0), (6, .c (.bool true))], [((.loc 3), [.int .i64 (Edit.kind e), .int .i64 (Tree.kind (Edit.old e)), .slice (U := U) .u64 (Tree.words (Edit.old e)) .unk, .slice (U := U) .tree (Tree.kids (Edit.old e)) .unk, .int .i64 (Tree.kind (Edit.new e)), .slice (U := U) .u64 (Tree.words (Edit.new e)) .unk, .slice (U := U) .tree (Tree.kids (Edit.new e)) .unk, .slice (U := U) .wedit (Edit.words e) .unk, .slice (U := U) .kid (Edit.kids e) .unk, .int .i64 (Edit.list e), .slice (U := U) .op (Edit.ops e) .unk])], []⟩ : LSt U) (AExit.inBlock 0 (S1036 [1, 1] Q)))))) :
    A1036 [] (⟨[(0, .c (.nilp)), (1, .agg [.int .i64 (Edit.kind e), .int .i64 (Tree.kind (Edit.old e)), .slice (U := U) .u64 (Tree.words (Edit.old e)) .unk, .slice (U := U) .tree (Tree.kids (Edit.old e)) .unk, .int .i64 (Tree.kind (Edit.new e)), .slice (U := U) .u64 (Tree.words (Edit.new e)) .unk, .slice (U := U) .tree (Tree.kids (Edit.new e)) .unk, .slice (U := U) .wedit (Edit.words e) .unk, .slice (U := U) .kid (Edit.kids e) .unk, .int .i64 (Edit.list e), .slice (U := U) .op (Edit.ops e) .unk])], [], []⟩ : LSt U) Q :=
  (Eq.mpr (by kernel_rfl) h :)
abbrev Body1036 (z : Unit) (e : Edit)  : Prop := awp cfg (know (know1036)) (drawOk cfg (know (know1036))) Tryz.f36.ntmps lv1036 (cd Tryz.f36 []) (entry (args1036.can (z, e, ())) []) (EndsQ cfg Tryz.f36.ntmps Tryz.f36.results.toList (res1036 (z, e, ())) [])
theorem make1036 (hb : ∀ (z : Unit) (e : Edit) (_ : Unit), pre1036 (z, e, ()) → Body1036 z e) : Contract Tryz.prog cfg 36 spec1036 :=
  contract_flat (l := []) cfgOk rfl (trivial) lv1036 Tryz.func36 rfl rfl 2 (fun _ => rfl) (by decide) (fun ⟨z, e, _⟩ => hb z e ())
noncomputable def know1039 : List (FuncId × Fs U) := []
def lv1039 : Lives U := fun i => match i with
  | 0 => ([(0, []), (1, [])], [])
  | 1 => ([(0, []), (1, []), (13, [])], [])
  | 2 => ([(4, [])], [])
  | 3 => ([(0, []), (1, []), (16, [])], [])
  | 4 => ([(4, [])], [])
  | 5 => ([(0, []), (1, []), (5, [])], [])
  | 6 => ([(0, []), (1, []), (5, []), (6, [])], [])
  | 7 => ([(0, []), (5, []), (6, []), (49, []), (50, []), (51, [])], [])
  | 8 => ([(0, []), (5, []), (6, []), (49, []), (50, []), (51, []), (52, [])], [])
  | 9 => ([(0, []), (5, []), (6, []), (8, []), (49, []), (50, []), (51, [])], [])
  | 10 => ([(0, []), (5, []), (6, []), (9, []), (10, []), (11, []), (49, []), (50, []), (51, [])], [])
  | 11 => ([(0, []), (5, []), (6, []), (9, []), (10, []), (11, []), (49, []), (50, []), (51, []), (63, [])], [])
  | 12 => ([(4, [])], [])
  | 13 => ([(0, []), (5, []), (6, []), (49, []), (50, []), (51, [])], [])
  | 14 => ([(0, []), (5, []), (6, []), (49, []), (50, []), (51, [])], [])
  | 15 => ([(0, []), (6, []), (12, [])], [])
  | 16 => ([(0, []), (6, []), (12, []), (75, [])], [])
  | 17 => ([(4, [])], [])
  | 18 => ([], [])
  | 19 => ([(4, [])], [])
  | _ => ([], [])
noncomputable abbrev A1039 (p : List Nat) := awp cfg (know know1039) (drawOk cfg (know know1039)) Tryz.f39.ntmps lv1039 (cd Tryz.f39 p)
noncomputable abbrev S1039 (p : List Nat) := seqK cfg (know know1039) (drawOk cfg (know know1039)) Tryz.f39.ntmps lv1039 (cd Tryz.f39 p)
theorem vc1039 (z : Unit) (i : Int) (Q : AExit → LSt U → Prop) (h : ((((true) = true → (Q .ret (⟨[(4, .c (.int .i64 1))], [], []⟩ : LSt U))) ∧ ((true) = false → A1039 [1, 0, 0, 1, 1] (⟨[(0, .c (.nilp)), (1, .c (.int .i64 i)), (13, .c (.bool true))], [], []⟩ : LSt U) (AExit.inBlock 0 (S1039 [1, 1] Q)))))) :
    A1039 [] (⟨[(0, .c (.nilp)), (1, .c (.int .i64 i))], [], []⟩ : LSt U) Q :=
  (Eq.mpr (by kernel_rfl) h :)
abbrev Body1039 (z : Unit) (i : Int)  : Prop := awp cfg (know (know1039)) (drawOk cfg (know (know1039))) Tryz.f39.ntmps lv1039 (cd Tryz.f39 []) (entry (args1039.can (z, i, ())) []) (EndsQ cfg Tryz.f39.ntmps Tryz.f39.results.toList (res1039 (z, i, ())) [])
theorem make1039 (hb : ∀ (z : Unit) (i : Int) (_ : Unit), pre1039 (z, i, ()) → Body1039 z i) : Contract Tryz.prog cfg 39 spec1039 :=
  contract_flat (l := []) cfgOk rfl (trivial) lv1039 Tryz.func39 rfl rfl 2 (fun _ => rfl) (by decide) (fun ⟨z, i, _⟩ => hb z i ())
noncomputable def know1037 : List (FuncId × Fs U) := []
def lv1037 : Lives U := fun i => match i with
  | 0 => ([(0, [])], [])
  | 1 => ([(0, []), (14, [])], [])
  | 2 => ([(2, [])], [])
  | 3 => ([(0, []), (3, [])], [])
  | 4 => ([(0, []), (3, []), (4, [])], [])
  | 5 => ([(0, []), (3, []), (4, []), (32, [])], [])
  | 6 => ([(2, [])], [])
  | 7 => ([], [])
  | 8 => ([(2, [])], [])
  | _ => ([], [])
noncomputable abbrev A1037 (p : List Nat) := awp cfg (know know1037) (drawOk cfg (know know1037)) Tryz.f37.ntmps lv1037 (cd Tryz.f37 p)
noncomputable abbrev S1037 (p : List Nat) := seqK cfg (know know1037) (drawOk cfg (know know1037)) Tryz.f37.ntmps lv1037 (cd Tryz.f37 p)
theorem vc1037 (z : Unit) (Q : AExit → LSt U → Prop) (h : ((((true) = true → (Q .ret (⟨[(2, .c (.bool false))], [], []⟩ : LSt U))) ∧ ((true) = false → A1037 [1, 0, 1, 1] (⟨[(0, .c (.nilp)), (14, .c (.bool true))], [], []⟩ : LSt U) (S1037 [1, 1] Q))))) :
    A1037 [] (⟨[(0, .c (.nilp))], [], []⟩ : LSt U) Q :=
  (Eq.mpr (by kernel_rfl) h :)
abbrev Body1037 (z : Unit)  : Prop := awp cfg (know (know1037)) (drawOk cfg (know (know1037))) Tryz.f37.ntmps lv1037 (cd Tryz.f37 []) (entry (args1037.can (z, ())) []) (EndsQ cfg Tryz.f37.ntmps Tryz.f37.results.toList (res1037 (z, ())) [])
theorem make1037 (hb : ∀ (z : Unit) (_ : Unit), pre1037 (z, ()) → Body1037 z) : Contract Tryz.prog cfg 37 spec1037 :=
  contract_flat (l := []) cfgOk rfl (trivial) lv1037 Tryz.func37 rfl rfl 1 (fun _ => rfl) (by decide) (fun ⟨z, _⟩ => hb z ())
noncomputable def know1038 : List (FuncId × Fs U) := []
def lv1038 : Lives U := fun i => match i with
  | 0 => ([(0, [])], [])
  | 1 => ([(0, []), (14, [])], [])
  | 2 => ([(2, [])], [])
  | 3 => ([(0, []), (3, [])], [])
  | 4 => ([(0, []), (3, []), (4, [])], [])
  | 5 => ([(0, []), (3, []), (4, []), (31, [])], [])
  | 6 => ([(2, [])], [])
  | 7 => ([], [])
  | 8 => ([(2, [])], [])
  | _ => ([], [])
noncomputable abbrev A1038 (p : List Nat) := awp cfg (know know1038) (drawOk cfg (know know1038)) Tryz.f38.ntmps lv1038 (cd Tryz.f38 p)
noncomputable abbrev S1038 (p : List Nat) := seqK cfg (know know1038) (drawOk cfg (know know1038)) Tryz.f38.ntmps lv1038 (cd Tryz.f38 p)
theorem vc1038 (z : Unit) (Q : AExit → LSt U → Prop) (h : ((((true) = true → (Q .ret (⟨[(2, .c (.bool false))], [], []⟩ : LSt U))) ∧ ((true) = false → A1038 [1, 0, 1, 1] (⟨[(0, .c (.nilp)), (14, .c (.bool true))], [], []⟩ : LSt U) (S1038 [1, 1] Q))))) :
    A1038 [] (⟨[(0, .c (.nilp))], [], []⟩ : LSt U) Q :=
  (Eq.mpr (by kernel_rfl) h :)
abbrev Body1038 (z : Unit)  : Prop := awp cfg (know (know1038)) (drawOk cfg (know (know1038))) Tryz.f38.ntmps lv1038 (cd Tryz.f38 []) (entry (args1038.can (z, ())) []) (EndsQ cfg Tryz.f38.ntmps Tryz.f38.results.toList (res1038 (z, ())) [])
theorem make1038 (hb : ∀ (z : Unit) (_ : Unit), pre1038 (z, ()) → Body1038 z) : Contract Tryz.prog cfg 38 spec1038 :=
  contract_flat (l := []) cfgOk rfl (trivial) lv1038 Tryz.func38 rfl rfl 1 (fun _ => rfl) (by decide) (fun ⟨z, _⟩ => hb z ())
noncomputable def know8 : List (FuncId × Fs U) := [(32, spec32), (45, spec45), (46, spec1046), (35, spec1035), (40, spec1040), (36, spec1036), (39, spec1039), (37, spec1037), (38, spec1038)]
def lv8 : Lives U := fun i => match i with
  | 0 => ([(1, [])], [((.loc 1), [])])
  | 1 => ([(1, []), (11, [])], [((.loc 1), [])])
  | 2 => ([(2, [])], [])
  | 3 => ([(1, []), (3, [])], [((.loc 1), [])])
  | 4 => ([(1, []), (3, []), (4, []), (5, [])], [((.loc 1), [])])
  | 5 => ([(1, []), (3, []), (4, []), (5, []), (6, [])], [((.loc 1), []), ((.loc 6), [])])
  | 6 => ([(1, []), (3, []), (4, []), (5, []), (6, []), (7, [])], [((.loc 1), []), ((.loc 6), []), ((.loc 7), [])])
  | 7 => ([(2, [])], [])
  | _ => ([], [])
noncomputable abbrev A8 (p : List Nat) := awp cfg (know know8) (drawOk cfg (know know8)) Tryz.f8.ntmps lv8 (cd Tryz.f8 p)
theorem vc8 (d : Deed) (Q : AExit → LSt U → Prop) (h : ∀ y_1, y_1 = ((Deed.e d)) → ((pre45 (y_1, ())) ∧ (((!(decide (0 ≤ leftE y_1 80 3000))) = true → (pre32 (())) ∧ (Q .ret (⟨[(2, .c (.bool true))], [], []⟩ : LSt U))) ∧ ((!(decide (0 ≤ leftE y_1 80 3000))) = false → ((pre1046 ((), ())) ∧ ((pre1035 ((), ())) ∧ ((pre1040 ((), ())) ∧ ((InR ((0 : Int) + 0)) ∧ (Tr (((((0 : Int) + 0) : Int) == 0) = true)) ∧ (Tr (((((0 : Int) + 0) : Int) == 0) = true)) ∧ ((Tr (((((0 : Int) + 0) : Int) == 0) = true))) ∧ (Tr ((bif ((((0 : Int) + 0) : Int) == 0) then (((Tree.kind Tree.nil) : Int) == 0) else false) = true)) ∧ (Tr ((bif ((((0 : Int) + 0) : Int) == 0) then (((Tree.kind Tree.nil) : Int) == 0) else false) = true)) ∧ ((Tr ((bif ((((0 : Int) + 0) : Int) == 0) then (((Tree.kind Tree.nil) : Int) == 0) else false) = true))) ∧ (Tr ((bif (bif ((((0 : Int) + 0) : Int) == 0) then (((Tree.kind Tree.nil) : Int) == 0) else false) then (((Edit.kind Edit.nil) : Int) == 0) else false) = true)) ∧ (Tr ((bif (bif ((((0 : Int) + 0) : Int) == 0) then (((Tree.kind Tree.nil) : Int) == 0) else false) then (((Edit.kind Edit.nil) : Int) == 0) else false) = true)) ∧ (Tr ((bif (bif ((((0 : Int) + 0) : Int) == 0) then (((Tree.kind Tree.nil) : Int) == 0) else false) then (((Edit.kind Edit.nil) : Int) == 0) else false) = true)) ∧ ((bif (bif ((((0 : Int) + 0) : Int) == 0) then (((Tree.kind Tree.nil) : Int) == 0) else false) then (((Edit.kind Edit.nil) : Int) == 0) else false) = true → pre1036 ((), y_1, ())) ∧ (Tr ((bif (bif ((((0 : Int) + 0) : Int) == 0) then (((Tree.kind Tree.nil) : Int) == 0) else false) then (((Edit.kind Edit.nil) : Int) == 0) else false) = true)) ∧ ((Tr ((bif (bif ((((0 : Int) + 0) : Int) == 0) then (((Tree.kind Tree.nil) : Int) == 0) else false) then (((Edit.kind Edit.nil) : Int) == 0) else false) = true))) ∧ (Tr ((bif (bif (bif ((((0 : Int) + 0) : Int) == 0) then (((Tree.kind Tree.nil) : Int) == 0) else false) then (((Edit.kind Edit.nil) : Int) == 0) else false) then ((1 : Int) == 1) else false) = true)) ∧ (Tr ((bif (bif (bif ((((0 : Int) + 0) : Int) == 0) then (((Tree.kind Tree.nil) : Int) == 0) else false) then (((Edit.kind Edit.nil) : Int) == 0) else false) then ((1 : Int) == 1) else false) = true)) ∧ (Tr ((bif (bif (bif ((((0 : Int) + 0) : Int) == 0) then (((Tree.kind Tree.nil) : Int) == 0) else false) then (((Edit.kind Edit.nil) : Int) == 0) else false) then ((1 : Int) == 1) else false) = true)) ∧ ((bif (bif (bif ((((0 : Int) + 0) : Int) == 0) then (((Tree.kind Tree.nil) : Int) == 0) else false) then (((Edit.kind Edit.nil) : Int) == 0) else false) then ((1 : Int) == 1) else false) = true → pre1039 ((), (Deed.i d), ())) ∧ (Tr ((bif (bif (bif ((((0 : Int) + 0) : Int) == 0) then (((Tree.kind Tree.nil) : Int) == 0) else false) then (((Edit.kind Edit.nil) : Int) == 0) else false) then ((1 : Int) == 1) else false) = true)) ∧ ((Tr ((bif (bif (bif ((((0 : Int) + 0) : Int) == 0) then (((Tree.kind Tree.nil) : Int) == 0) else false) then (((Edit.kind Edit.nil) : Int) == 0) else false) then ((1 : Int) == 1) else false) = true))) ∧ (Tr ((bif (bif (bif (bif ((((0 : Int) + 0) : Int) == 0) then (((Tree.kind Tree.nil) : Int) == 0) else false) then (((Edit.kind Edit.nil) : Int) == 0) else false) then ((1 : Int) == 1) else false) then ((1 : Int) == 1) else false) = true)) ∧ ((bif (bif (bif (bif ((((0 : Int) + 0) : Int) == 0) then (((Tree.kind Tree.nil) : Int) == 0) else false) then (((Edit.kind Edit.nil) : Int) == 0) else false) then ((1 : Int) == 1) else false) then ((1 : Int) == 1) else false) = true → pre1037 ((), ())) ∧ (Tr ((bif (bif (bif (bif ((((0 : Int) + 0) : Int) == 0) then (((Tree.kind Tree.nil) : Int) == 0) else false) then (((Edit.kind Edit.nil) : Int) == 0) else false) then ((1 : Int) == 1) else false) then ((1 : Int) == 1) else false) = true)) ∧ ((Tr ((bif (bif (bif (bif ((((0 : Int) + 0) : Int) == 0) then (((Tree.kind Tree.nil) : Int) == 0) else false) then (((Edit.kind Edit.nil) : Int) == 0) else false) then ((1 : Int) == 1) else false) then ((1 : Int) == 1) else false) = true))) ∧ (Tr ((bif (bif (bif (bif (bif ((((0 : Int) + 0) : Int) == 0) then (((Tree.kind Tree.nil) : Int) == 0) else false) then (((Edit.kind Edit.nil) : Int) == 0) else false) then ((1 : Int) == 1) else false) then ((1 : Int) == 1) else false) then (!false) else false) = true)) ∧ ((bif (bif (bif (bif (bif ((((0 : Int) + 0) : Int) == 0) then (((Tree.kind Tree.nil) : Int) == 0) else false) then (((Edit.kind Edit.nil) : Int) == 0) else false) then ((1 : Int) == 1) else false) then ((1 : Int) == 1) else false) then (!false) else false) = true → pre1038 ((), ())) ∧ (Tr ((bif (bif (bif (bif (bif ((((0 : Int) + 0) : Int) == 0) then (((Tree.kind Tree.nil) : Int) == 0) else false) then (((Edit.kind Edit.nil) : Int) == 0) else false) then ((1 : Int) == 1) else false) then ((1 : Int) == 1) else false) then (!false) else false) = true)) ∧ ((Tr ((bif (bif (bif (bif (bif ((((0 : Int) + 0) : Int) == 0) then (((Tree.kind Tree.nil) : Int) == 0) else false) then (((Edit.kind Edit.nil) : Int) == 0) else false) then ((1 : Int) == 1) else false) then ((1 : Int) == 1) else false) then (!false) else false) = true))) ∧ ((bif (bif (bif (bif (bif (bif ((((0 : Int) + 0) : Int) == 0) then (((Tree.kind Tree.nil) : Int) == 0) else false) then (((Edit.kind Edit.nil) : Int) == 0) else false) then ((1 : Int) == 1) else false) then ((1 : Int) == 1) else false) then (!false) else false) then (!false) else false) = true → pre32 (())) ∧ ((Tr ((bif (bif (bif (bif (bif (bif ((((0 : Int) + 0) : Int) == 0) then (((Tree.kind Tree.nil) : Int) == 0) else false) then (((Edit.kind Edit.nil) : Int) == 0) else false) then ((1 : Int) == 1) else false) then ((1 : Int) == 1) else false) then (!false) else false) then (!false) else false) = true))) ∧ (Q .ret (⟨[(2, .c (.bool (bif (bif (bif (bif (bif (bif (bif ((((0 : Int) + 0) : Int) == 0) then (((Tree.kind Tree.nil) : Int) == 0) else false) then (((Edit.kind Edit.nil) : Int) == 0) else false) then ((1 : Int) == 1) else false) then ((1 : Int) == 1) else false) then (!false) else false) then (!false) else false) then true else false)))], [], []⟩ : LSt U)))))))))) :
    A8 [] (⟨[(0, .agg [.int .i64 (Deed.kind d), .int .i64 (Deed.i d), .int .i64 (Edit.kind (Deed.e d)), .int .i64 (Tree.kind (Edit.old (Deed.e d))), .slice (U := U) .u64 (Tree.words (Edit.old (Deed.e d))) .unk, .slice (U := U) .tree (Tree.kids (Edit.old (Deed.e d))) .unk, .int .i64 (Tree.kind (Edit.new (Deed.e d))), .slice (U := U) .u64 (Tree.words (Edit.new (Deed.e d))) .unk, .slice (U := U) .tree (Tree.kids (Edit.new (Deed.e d))) .unk, .slice (U := U) .wedit (Edit.words (Deed.e d)) .unk, .slice (U := U) .kid (Edit.kids (Deed.e d)) .unk, .int .i64 (Edit.list (Deed.e d)), .slice (U := U) .op (Edit.ops (Deed.e d)) .unk])], [], []⟩ : LSt U) Q :=
  (Eq.mpr (by kernel_rfl) (h _ (reEdit_eq _)) :)
abbrev Body8 (d : Deed)  : Prop := awp cfg (know (know8)) (drawOk cfg (know (know8))) Tryz.f8.ntmps lv8 (cd Tryz.f8 []) (entry (args8.can (d, ())) []) (EndsQ cfg Tryz.f8.ntmps Tryz.f8.results.toList (res8 (d, ())) [])
theorem make8 (c32 : Contract Tryz.prog cfg 32 spec32) (c45 : Contract Tryz.prog cfg 45 spec45) (c1046 : Contract Tryz.prog cfg 46 spec1046) (c1035 : Contract Tryz.prog cfg 35 spec1035) (c1040 : Contract Tryz.prog cfg 40 spec1040) (c1036 : Contract Tryz.prog cfg 36 spec1036) (c1039 : Contract Tryz.prog cfg 39 spec1039) (c1037 : Contract Tryz.prog cfg 37 spec1037) (c1038 : Contract Tryz.prog cfg 38 spec1038) (hb : ∀ (d : Deed) (_ : Unit), pre8 (d, ()) → Body8 d) : Contract Tryz.prog cfg 8 spec8 :=
  contract_flat (l := [(32, spec32), (45, spec45), (46, spec1046), (35, spec1035), (40, spec1040), (36, spec1036), (39, spec1039), (37, spec1037), (38, spec1038)]) cfgOk rfl (⟨c32, c45, c1046, c1035, c1040, c1036, c1039, c1037, c1038, trivial⟩) lv8 Tryz.func8 rfl rfl 1 (fun _ => rfl) (by decide) (fun ⟨d, _⟩ => hb d ())
end Go.AM.YtpjenobkibfpcaaGreat

namespace Go.AM.YtpjenobkibfpcaaGreat
open Go.AM Go.Proofs
theorem c1046 : Contract Tryz.prog cfg 46 spec1046 := by
  refine make1046 ?_
  intro z _ _
  refine vc1046 z _ ⟨fun _ => ?_, fun h => by cases h⟩
  (repeat' (first | exact trivial | exact rfl | apply And.intro))
theorem c1035 : Contract Tryz.prog cfg 35 spec1035 := by
  refine make1035 ?_
  intro z _ _
  refine vc1035 z _ ⟨fun _ => ?_, fun h => by cases h⟩
  (repeat' (first | exact trivial | exact rfl | apply And.intro))
theorem c1040 : Contract Tryz.prog cfg 40 spec1040 := by
  refine make1040 ?_
  intro z _ _
  refine vc1040 z _ ⟨fun _ => ?_, fun h => by cases h⟩
  (repeat' (first | exact trivial | exact rfl | apply And.intro))
theorem c1036 : Contract Tryz.prog cfg 36 spec1036 := by
  refine make1036 ?_
  intro z e _ _
  refine vc1036 z e _ ⟨fun _ => ?_, fun h => by cases h⟩
  (repeat' (first | exact trivial | exact rfl | apply And.intro))
theorem c1039 : Contract Tryz.prog cfg 39 spec1039 := by
  refine make1039 ?_
  intro z i _ _
  refine vc1039 z i _ ⟨fun _ => ?_, fun h => by cases h⟩
  (repeat' (first | exact trivial | exact rfl | apply And.intro))
theorem c1037 : Contract Tryz.prog cfg 37 spec1037 := by
  refine make1037 ?_
  intro z _ _
  refine vc1037 z _ ⟨fun _ => ?_, fun h => by cases h⟩
  (repeat' (first | exact trivial | exact rfl | apply And.intro))
theorem c1038 : Contract Tryz.prog cfg 38 spec1038 := by
  refine make1038 ?_
  intro z _ _
  refine vc1038 z _ ⟨fun _ => ?_, fun h => by cases h⟩
  (repeat' (first | exact trivial | exact rfl | apply And.intro))
theorem c8 : Contract Tryz.prog cfg 8 spec8 := by
  refine make8 c32 c45 c1046 c1035 c1040 c1036 c1039 c1037 c1038 ?_
  intro d _ hp
  obtain ⟨h1, h2⟩ := hp
  dsimp only at h1 h2
  refine vc8 _ _ ?_
  rintro y1 rfl
  have e1 : ((0 : Int) + 0 == 0) = true := rfl
  have e2 : (Tree.kind Tree.nil == 0) = true := rfl
  have e3 : (Edit.kind Edit.nil == 0) = true := rfl
  have e4 : ((1 : Int) == 1) = true := rfl
  refine ⟨h1, fun _ => ⟨trivial, by (repeat' (first | exact trivial | exact rfl | apply And.intro))⟩, fun _ => ?_⟩
  rw [e1, e2, e3, e4]
  simp only [cond_true, Bool.not_false]
  (simp only [vcT, vcS])
  exact ⟨trivial, trivial, trivial, by unfold InR; decide, trivial, trivial, trivial, trivial, trivial, by (repeat' (first | exact trivial | exact rfl | apply And.intro))⟩
end Go.AM.YtpjenobkibfpcaaGreat
