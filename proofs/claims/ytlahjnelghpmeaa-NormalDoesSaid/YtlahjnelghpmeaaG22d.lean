import Derived.Test.YtlahjnelghpmeaaL21
import Derived.Test.YtlahjnelghpmeaaL23r
set_option linter.unusedSimpArgs false
set_option linter.unusedVariables false
namespace Go.AM.Ytlahjnelghpmeaa
open Go.AM Go.Proofs
theorem massTK (t : Tree) : t.words.length + massK t.kids + 1 = mass t := by obtain ⟨k, w, ks⟩ := t; simp only [mass, Tree.words_mk, Tree.kids_mk]; omega
theorem massK_set : ∀ (l : List Tree) (i : Nat) (x : Tree), i < l.length → massK (l.set i x) + mass (l.getD i Tree.nil) = massK l + mass x
  | [], i, x, h => by simp at h
  | a :: r, 0, x, _ => by simp only [List.set_cons_zero, massK, List.getD_cons_zero]; omega
  | a :: r, i + 1, x, h => by
    have := massK_set r i x (by simpa using h)
    simp only [List.set_cons_succ, massK, List.getD_cons_succ]; omega
theorem massK_reps (n : Nat) : massK (List.replicate n Tree.nil) = n := by
  induction n with
  | zero => rfl
  | succ n ih => rw [List.replicate_succ, massK, ih]; simp [Tree.nil, mass, massK]; omega
theorem massK_cat : ∀ (a b : List Tree), massK (a ++ b) = massK a + massK b
  | [], b => by simp [massK]
  | t :: r, b => by simp only [List.cons_append, massK, massK_cat r b]; omega
theorem massK_pad (l : List Tree) (i : Nat) (x : Tree) : massK (setPad Tree.nil l i x) + mass (l.getD i Tree.nil) ≤ massK l + mass x + (i + 1) := by
  have h := massK_set (l ++ List.replicate (i + 1 - l.length) Tree.nil) i x (by simp; omega)
  have e : (l ++ List.replicate (i + 1 - l.length) Tree.nil).getD i Tree.nil = l.getD i Tree.nil := by
    by_cases hi : i < l.length
    · simp only [List.getD_eq_getElem?_getD]; rw [List.getElem?_append_left hi]
    · simp only [List.getD_eq_getElem?_getD]
      rw [List.getElem?_append_right (by omega), List.getElem?_eq_none (l := l) (by omega), List.getElem?_replicate]
      split <;> rfl
  rw [e, massK_cat, massK_reps] at h
  simp only [setPad]
  omega
theorem wsD_len {tw : List Int} : ∀ {ws : List WEdit} {last : Int} {out a : List Int}, wordsOk last ws = true → wsD tw ws out = some a → a.length ≤ max out.length 65535
  | [], _, out, a, _, h => by rw [wsD] at h; cases h; omega
  | w :: r, last, out, a, hw, h => by
    have h1 := wordsOk_all hw w List.mem_cons_self
    simp only [wordsOk, Bool.and_eq_true] at hw
    rw [wsD] at h
    split at h
    · have := wsD_len hw.2 h
      rw [setPad_length] at this
      omega
    · cases h
theorem rightKs_cons {last d : Int} {k : Kid} {r : List Kid} (h : rightKs last (k :: r) d = true) : (last < k.at_ ∧ k.at_ ≤ 65534) ∧ rightE k.e d = true ∧ rightKs k.at_ r d = true := by
  have := rightKs_all h k List.mem_cons_self
  simp only [rightKs, Bool.and_eq_true] at h
  exact ⟨⟨this.1.1, this.1.2.1⟩, this.2, h.2⟩
theorem mass_step {A B C b u m M s o : Nat} (m1 : u + 262144 ≤ B + 131072 * m) (m2 : A + B ≤ o + u + C) (m3 : b + 131072 * s ≤ A + 131072 * M) (m4 : C ≤ 131072) : b + 131072 * (s + 1) ≤ o + 131072 * (m + M) := by
  rw [Nat.mul_add, Nat.mul_add, Nat.mul_one, ← Nat.add_assoc]
  generalize 131072 * s = S at *
  generalize 131072 * m = X at *
  generalize 131072 * M = Y at *
  omega
theorem nrD_mass (r : Bool) (v : Tree) : mass (nrD r v) ≤ mass v := by
  unfold nrD
  split
  · exact normT_mass v
  · exact Nat.le_refl _
mutual
theorem mass_raw (r : Bool) : ∀ (e : Edit) (d : Int) (t v : Tree), rightE e d = true → rawE r e t = some v → mass v + 262144 ≤ mass t + 131072 * massE e
  | .mk k o n w ks l os, d, t, v, hr, hv => by
    have ri := rightE_all hr
    have h1 := mass_doKs r ks t.kids
    have h2 := mass_doOs r l os
    have hm := len_massE (.mk k o n w ks l os)
    have po := mass_pos o
    have pn := mass_pos n
    have ht := massTK t
    simp only [Edit.old_mk, Edit.new_mk, Edit.words_mk, Edit.kids_mk, Edit.ops_mk] at hm
    unfold rawE at hv
    split at hv
    · cases hv; omega
    · split at hv
      · split at hv
        · cases hv
          show mass n + _ ≤ _
          omega
        · cases hv
      · split at hv
        · split at hv
          · obtain ⟨a, ha, hb⟩ := Option.bind_eq_some_iff.1 hv
            obtain ⟨b, hb, e⟩ := Option.map_eq_some_iff.1 hb
            have l1 := wsD_len ri.words ha
            have l2 := h1 t.kids b _ (-1) (by omega) ri.kids (fun j _ => rfl) hb
            rw [← e]
            simp only [mass]
            omega
          · cases hv
        · split at hv
          · split at hv
            · obtain ⟨b, hb, e⟩ := Option.map_eq_some_iff.1 hv
              unfold endD at hb
              obtain ⟨x, hx, hy⟩ := Option.bind_eq_some_iff.1 hb
              have l2 := h2 _ t.kids [] x (fun o ho => Go.AM.rightOs_mem ri.ops o ho) hx
              split at hy
              · cases hy
                rw [← e]
                simp only [mass, List.length_nil]
                simp only [massK] at l2
                omega
              · cases hy
            · cases hv
          · cases hv
theorem mass_doKs (r : Bool) : ∀ (ks : List (KidOf Edit)) (tk out b : List Tree) (d last : Int), -1 ≤ last → rightKs last ks d = true → (∀ j : Nat, last < (j : Int) → out.getD j Tree.nil = tk.getD j Tree.nil) → doKs r tk ks out = some b → massK b + 131072 * ks.length ≤ massK out + 131072 * massKs ks
  | [], tk, out, b, d, last, _, _, _, h => by rw [doKs] at h; cases h; simp
  | k :: s, tk, out, b, d, last, hl, hr, hj, h => by
    obtain ⟨h1, h2, h3⟩ := rightKs_cons hr
    rw [doKs] at h
    obtain ⟨u, hu, hb⟩ := Option.bind_eq_some_iff.1 h
    have m1 := mass_doKid r k tk u d h2 hu
    have m2 := massK_pad out k.at_.toNat u
    rw [hj k.at_.toNat (by omega)] at m2
    have m3 := mass_doKs r s tk _ b d k.at_ (by omega) h3 (fun j hj' => by
      rw [setPad_getD, if_neg (by omega)]
      exact hj j (by omega)) hb
    have m4 : k.at_.toNat + 1 ≤ 131072 := by omega
    have e1 : massKs (k :: s) = massE k.e + massKs s := by rw [massKs, massKid_e]
    rw [e1, List.length_cons]
    exact mass_step m1 m2 m3 m4
theorem mass_doKid (r : Bool) : ∀ (k : KidOf Edit) (tk : List Tree) (u : Tree) (d : Int), rightE k.e d = true → doKid r tk k = some u → mass u + 262144 ≤ mass (tk.getD k.at_.toNat Tree.nil) + 131072 * massE k.e
  | ⟨a, e⟩, tk, u, d, hr, h => by
    rw [doKid, doE_raw] at h
    obtain ⟨v, hv, hu⟩ := Option.map_eq_some_iff.1 h
    have := mass_raw r e d (tk.getD a.toNat Tree.nil) v hr hv
    have hvu := nrD_mass r v
    rw [hu] at hvu
    dsimp only
    omega
theorem mass_doOs (r : Bool) (l : Int) : ∀ (os : List (OpOf Edit)) (d : Int) (rest out : List Tree) (x : List Tree × List Tree), (∀ o ∈ os, rightOp l o d = true) → doOs r os rest out = some x → massK x.1 + massK x.2 ≤ massK out + massK rest + 131072 * massOs os
  | [], d, rest, out, x, _, h => by rw [doOs] at h; cases h; simp
  | o :: s, d, rest, out, x, hr, h => by
    rw [doOs] at h
    obtain ⟨y, hy, hx⟩ := Option.bind_eq_some_iff.1 h
    have m1 := mass_doOp r l o d rest out y (hr o List.mem_cons_self) hy
    have m2 := mass_doOs r l s d _ _ x (fun q hq => hr q (List.mem_cons_of_mem _ hq)) hx
    rw [massOs]
    omega
theorem mass_doOp (r : Bool) (l : Int) : ∀ (o : OpOf Edit) (d : Int) (rest out : List Tree) (x : List Tree × List Tree), rightOp l o d = true → doOp r o rest out = some x → massK x.1 + massK x.2 ≤ massK out + massK rest + 131072 * massOp o
  | ⟨k, n, L, e⟩, d, rest, out, x, hr, h => by
    have he := mass_raw r e d (rest.getD 0 Tree.nil)
    have hp := massE_pos e
    rw [doOp] at h
    simp only [massOp]
    split at h
    · split at h
      · cases h
        have := massK_cat (rest.take n.toNat) (rest.drop n.toNat)
        rw [List.take_append_drop] at this
        dsimp only
        rw [massK_cat]; omega
      · cases h
    · split at h
      · split at h
        · cases h
          have := massK_drop L.length rest
          dsimp only; omega
        · cases h
      · split at h
        · cases h
          dsimp only
          rw [massK_cat]; omega
        · split at h
          · cases h
          · obtain ⟨u, hu, e2⟩ := Option.map_eq_some_iff.1 h
            cases e2
            have hk : k = 3 := by
              have ra := rightOp_all hr
              generalize ho : OpOf.mk k n L e = o at ra
              cases ra <;> (injection ho with h1; try omega)
            rw [doE_raw] at hu
            obtain ⟨v, hv, hu⟩ := Option.map_eq_some_iff.1 hu
            have := he v (right_desc hr hk) hv
            have hvu := nrD_mass r v
            rw [hu] at hvu
            cases rest with
            | nil => contradiction
            | cons a q =>
              rw [massK_cat]
              simp only [massK, List.drop_succ_cons, List.drop_zero, List.getD_cons_zero] at this ⊢
              omega
end
theorem mass_do (r : Bool) (e : Edit) (d : Int) (t u : Tree) (hr : rightE e d = true) (h : doE r e t = some u) : mass u + 262144 ≤ mass t + 131072 * massE e := by
  rw [doE_raw] at h
  obtain ⟨v, hv, hu⟩ := Option.map_eq_some_iff.1 h
  have := mass_raw r e d t v hr hv
  have hvu := nrD_mass r v
  rw [hu] at hvu
  omega
theorem rng_nilT' : rng Tree.nil := ⟨by decide, by simp, trivial⟩
end Go.AM.Ytlahjnelghpmeaa

namespace Go.AM.Ytlahjnelghpmeaa
open Go.AM Go.Proofs
theorem doE_mass {r : Bool} {e : Edit} {t u : Tree} (he : massE e ≤ 1000000) (hr : ∃ d, rightE e d = true) (ht : mass t ≤ 100000000000) (h : doE r e t = some u) : mass u ≤ 1000000000000 := by
  obtain ⟨d, hr⟩ := hr
  have := mass_do r e d t u hr h
  omega
theorem c52 : Contract Try.prog cfg 52 spec52 := by
  refine make52 c32 c82 ?_
  intro e t _ hp
  simp only [pre52] at hp
  refine vc52 _ _ _ ?_
  rintro y1 hy1 y2 hy2 y3 hy3
  subst hy1 hy2
  (simp only [vcT, bif_tl, bif_fr, bif_tlf, bif_frf, Bool.not_eq_true', Bool.not_eq_false', decide_eq_true_eq, decide_eq_false_iff_not, beq_iff_eq, beq_eq_false_iff_ne, bne_iff_ne, ne_eq, bne_eq_false_iff_eq, Bool.or_eq_true, Bool.and_eq_true, Bool.or_eq_false_iff, Bool.and_eq_false_imp])
  refine ⟨by simp only [pre82]; exact hp, fun hn => ?_, fun hs => ?_⟩
  · have hn : doE false y1 y2 = none := by simpa using hn
    simp only [res52, hn]
    (repeat' (first | exact trivial | exact rfl | apply And.intro))
  · obtain ⟨u, hu⟩ := Option.isSome_iff_exists.1 hs
    rw [oneT_some hu] at hy3
    subst hy3
    have := doE_mass hp.1.1 hp.1.2.2 hp.2.1 hu
    refine ⟨by simp only [pre32]; exact this, ?_⟩
    simp only [res52, hu]
    (repeat' (first | exact trivial | exact rfl | apply And.intro))
end Go.AM.Ytlahjnelghpmeaa

namespace Go.AM.Ytlahjnelghpmeaa
open Go.AM Go.Proofs
section
variable {α β : Type} {z : α} {f : β → Option α} {p : β → Int}
end
theorem rightK_mem {list d : Int} : ∀ {l : List Tree}, rightK list l d = true → ∀ t ∈ l, rightT t d = true
  | [], _, _, ht => by cases ht
  | a :: r, h, t, ht => by
    simp only [rightK, Bool.and_eq_true] at h
    rcases List.mem_cons.1 ht with rfl | ht
    · exact h.1.2
    · exact rightK_mem h.2 t ht
def RT_ (t : Tree) : Prop := (∃ d, rightT t d = true) ∧ rng t
theorem RT_.kids {t : Tree} (h : RT_ t) : (∀ k ∈ t.kids, RT_ k) ∧ (t.kind ≠ 0 → t.kind ≠ 1 → t.kind ≠ 10 → t.words = []) := by
  obtain ⟨⟨d, h⟩, hr⟩ := h
  obtain ⟨k, w, ks⟩ := t
  have hk : ∀ x ∈ ks, rng x := fun x hx => rngK_mem hr.2.2 hx
  show (∀ x ∈ ks, RT_ x) ∧ (k ≠ 0 → k ≠ 1 → k ≠ 10 → w = [])
  rw [rightT] at h
  split at h
  · simp only [decide_eq_true_eq] at h
    rw [List.eq_nil_of_length_eq_zero h.2]
    exact ⟨fun x hx => (by cases hx), fun h0 => absurd ‹_› h0⟩
  · split at h
    · simp only [decide_eq_true_eq] at h
      rw [List.eq_nil_of_length_eq_zero h.2]
      exact ⟨fun x hx => (by cases hx), fun _ _ h0 => absurd ‹_› h0⟩
    · split at h
      · cases h
      · split at h
        · simp only [Bool.and_eq_true] at h
          exact ⟨fun x hx => ⟨⟨_, rightK_mem h.2 x hx⟩, hk x hx⟩, fun _ h1 => absurd ‹_› h1⟩
        · simp only [Bool.and_eq_true, decide_eq_true_eq] at h
          exact ⟨fun x hx => ⟨⟨_, rightK_mem h.2 x hx⟩, hk x hx⟩, fun _ _ _ => List.eq_nil_of_length_eq_zero h.1.2.2.1⟩
theorem RT_nil : RT_ Tree.nil := ⟨⟨1, rfl⟩, rng_nilT'⟩
theorem RT_get {l : List Tree} (h : ∀ t ∈ l, RT_ t) (i : Nat) : RT_ (l.getD i Tree.nil) := by
  by_cases hi : i < l.length
  · exact h _ (mem_getD hi _)
  · rw [List.getD_eq_getElem?_getD, List.getElem?_eq_none (by omega)]; exact RT_nil
theorem rightOp_facts' {list : Int} {o : Op} {d : Int} (h : rightOp list o d = true) : o.kind = 0 ∨ o.kind = 1 ∨ o.kind = 2 ∨ o.kind = 3 := by
  have r := rightOp_all h
  cases r with
  | keep => exact .inl rfl
  | gone => exact .inr (.inl rfl)
  | come => exact .inr (.inr (.inl rfl))
  | into => exact .inr (.inr (.inr rfl))
end Go.AM.Ytlahjnelghpmeaa

namespace Go.AM.Ytlahjnelghpmeaa
open Go.AM Go.Proofs
theorem good_in' {e : Edit} (h : good e = true) : massE e ≤ 3000 ∧ rightE e 64 = true := by
  simp only [good, Bool.and_eq_true, decide_eq_true_eq] at h
  exact ⟨few_massE h.1.1, h.1.2⟩
theorem pre52_of {e : Edit} {t : Tree} (hg : good e = true) (he : rngE e) (ht : mass t ≤ 1000000) (hr : rng t) : (massE e ≤ 1000000 ∧ rngE e ∧ ∃ d, rightE e d = true) ∧ mass t ≤ 100000000000 ∧ rng t := by
  obtain ⟨hm, hx⟩ := good_in' hg
  exact ⟨⟨by omega, he, 64, hx⟩, by omega, hr⟩
theorem orNil_mass {r : Bool} {e : Edit} {t : Tree} (he : massE e ≤ 1000000) (hr : ∃ d, rightE e d = true) (ht : mass t ≤ 100000000000) : mass (orNil (doE r e t)) ≤ 1000000000000 := by
  cases h : doE r e t with
  | none => simp [orNil, Tree.nil, mass, massK]
  | some u => exact doE_mass he hr ht h
theorem orNil_norm (o : Option Tree) : orNil (o.map normT) = normT (orNil o) := by cases o; exact normT_nil.symm; rfl
end Go.AM.Ytlahjnelghpmeaa

namespace Go.AM.Ytlahjnelghpmeaa
open Go.AM Go.Proofs
def Rx (x y : List Tree × List Tree) : Prop := EqvL x.1 y.1 ∧ EqvL x.2 y.2
theorem Rx.rfl' (a : Option (List Tree × List Tree)) : OptR Rx a a := by cases a; exact trivial; exact ⟨rfl, rfl⟩
theorem Rx.of {a b : Option (List Tree × List Tree)} (h : a = b) : OptR Rx a b := by rw [h]; exact Rx.rfl' b
theorem OptR.trans' {α : Type} {R : α → α → Prop} (ht : ∀ x y z, R x y → R y z → R x z) {a b c : Option α} (h1 : OptR R a b) (h2 : OptR R b c) : OptR R a c := by
  cases a <;> cases b <;> cases c <;> first | exact trivial | exact h1.elim | exact h2.elim | exact ht _ _ _ h1 h2
theorem Rx.trans {a b c : Option (List Tree × List Tree)} (h1 : OptR Rx a b) (h2 : OptR Rx b c) : OptR Rx a c :=
  OptR.trans' (fun _ _ _ p q => ⟨Eq.trans p.1 q.1, Eq.trans p.2 q.2⟩) h1 h2
theorem doOs_app (r : Bool) : ∀ (a b : List Op) (rest out : List Tree), doOs r (a ++ b) rest out = (doOs r a rest out).bind fun x => doOs r b x.2 x.1
  | [], b, rest, out => by rw [doOs]; rfl
  | o :: s, b, rest, out => by
    rw [List.cons_append, doOs, doOs]
    cases h : doOp r o rest out with
    | none => rfl
    | some x => rw [Option.bind_some, Option.bind_some]; exact doOs_app r s b _ _
theorem doOs_one (r : Bool) (o : Op) (rest out : List Tree) : doOs r [o] rest out = doOp r o rest out := by
  rw [doOs]
  cases doOp r o rest out with
  | none => rfl
  | some x => rw [Option.bind_some, doOs]
theorem doOs_end (r : Bool) (a : List Op) (o : Op) (rest out : List Tree) : doOs r (a ++ [o]) rest out = (doOs r a rest out).bind fun x => doOp r o x.2 x.1 := by
  rw [doOs_app]
  congr 1
  funext x
  exact doOs_one r o _ _
theorem doOs_suffix {r : Bool} : ∀ {os : List Op} {rest out : List Tree} {x : List Tree × List Tree}, doOs r os rest out = some x → ∃ n, x.2 = rest.drop n
  | [], rest, out, x, h => by rw [doOs] at h; cases h; exact ⟨0, by simp⟩
  | o :: s, rest, out, x, h => by
    rw [doOs] at h
    obtain ⟨y, hy, hx⟩ := Option.bind_eq_some_iff.1 h
    obtain ⟨n, hn⟩ := doOs_suffix hx
    have : ∃ m, y.2 = rest.drop m := by
      rw [doOp_at] at hy
      split at hy
      · split at hy
        · cases hy; exact ⟨_, rfl⟩
        · cases hy
      · split at hy
        · split at hy
          · cases hy; exact ⟨_, rfl⟩
          · cases hy
        · split at hy
          · cases hy; exact ⟨0, by simp⟩
          · split at hy
            · cases hy
            · obtain ⟨u, _, e⟩ := Option.map_eq_some_iff.1 hy
              cases e
              exact ⟨1, rfl⟩
    obtain ⟨m, hm⟩ := this
    exact ⟨m + n, by rw [hn, hm, List.drop_drop]⟩
theorem goneD_nil (rest : List Tree) : goneD [] rest = true := by unfold goneD; rw [eqX_iff.2 (by simp)]; simp
theorem goneD_norms (l rest : List Tree) : goneD (normsT l) rest = goneD l rest := by
  unfold goneD
  rw [normsT_idem, show (normsT l).length = l.length by simp [normsT]]
theorem goneD_iff (l rest : List Tree) : goneD l rest = true ↔ l.length ≤ rest.length ∧ normsT l = normsT (rest.take l.length) := by
  unfold goneD
  rw [Bool.and_eq_true, decide_eq_true_eq, eqX_iff]
theorem goneD_app (a b rest : List Tree) : goneD (a ++ b) rest = (goneD a rest && goneD b (rest.drop a.length)) := by
  rw [Bool.eq_iff_iff, Bool.and_eq_true, goneD_iff, goneD_iff, goneD_iff]
  simp only [List.length_append, List.length_drop]
  constructor
  · rintro ⟨h1, h2⟩
    rw [normsT_append, List.take_add, normsT_append] at h2
    obtain ⟨h3, h4⟩ := List.append_inj h2 (by simp [normsT]; omega)
    exact ⟨⟨by omega, h3⟩, by omega, h4⟩
  · rintro ⟨⟨h1, h2⟩, h3, h4⟩
    refine ⟨by omega, ?_⟩
    rw [normsT_append, List.take_add, normsT_append, h2, h4]
theorem flush_do (s : Wst) (rest out : List Tree) : doOs false (flushW s).out rest out = (doOs false s.out rest out).bind fun x => if goneD s.gone x.2 = true then some (x.1 ++ s.brought, x.2.drop s.gone.length) else none := by
  simp only [flushW, flushO]
  rw [doOs_app]
  congr 1
  funext x
  rw [doOs_app]
  have h1 : doOs false (if s.gone.length = 0 then [] else [⟨1, 0, s.gone, Edit.nil⟩]) x.2 x.1 = if goneD s.gone x.2 = true then some (x.1, x.2.drop s.gone.length) else none := by
    split
    · rename_i h
      rw [List.eq_nil_of_length_eq_zero h, goneD_nil, if_pos rfl, doOs]
      rfl
    · rw [doOs_one, doOp_at]
      rw [if_neg (by show ¬ (1 : Int) = 0; omega), if_pos rfl]
  have h2 : ∀ y : List Tree × List Tree, doOs false (if s.brought.length = 0 then [] else [⟨2, 0, s.brought, Edit.nil⟩]) y.2 y.1 = some (y.1 ++ s.brought, y.2) := by
    intro y
    split
    · rename_i h
      rw [List.eq_nil_of_length_eq_zero h, List.append_nil, doOs]
    · rw [doOs_one, doOp_at]
      rw [if_neg (by show ¬ (2 : Int) = 0; omega), if_neg (by show ¬ (2 : Int) = 1; omega), if_pos rfl]
  rw [h1]
  split
  · rw [Option.bind_some, h2]
  · rfl
theorem keep_do {F : List Op} {n : Int} (hF : ∀ o ∈ F, 0 ≤ o.n) (hn : 0 ≤ n) (rest out : List Tree) : doOs false (keepO F n) rest out = doOs false (F ++ [⟨0, n, [], Edit.nil⟩]) rest out := by
  rcases keepO_cases F n with h | ⟨a, o, h1, h2, h3⟩
  · rw [h]
  · rw [h3, h1, doOs_end, doOs_end, doOs_end]
    cases hx : doOs false a rest out with
    | none => rfl
    | some x =>
      have ho := hF o (by rw [h1]; simp)
      simp only [Option.bind_some]
      rw [doOp_at, doOp_at, if_pos h2, if_pos h2]
      simp only
      have e : (o.n + n).toNat = o.n.toNat + n.toNat := by omega
      rw [e]
      by_cases c : o.n.toNat ≤ x.2.length
      · rw [if_pos c, Option.bind_some, doOp_at, if_pos rfl]
        simp only [List.length_drop]
        by_cases c2 : n.toNat ≤ x.2.length - o.n.toNat
        · rw [if_pos c2, if_pos (by omega), List.drop_drop, List.append_assoc, ← List.take_add]
        · rw [if_neg c2, if_neg (by omega)]
      · rw [if_neg c, if_neg (by omega)]
        rfl
def N0s (s : Wst) : Prop := ∀ o ∈ s.out, 0 ≤ o.n
theorem N0s.flush {s : Wst} (h : N0s s) : ∀ o ∈ (flushW s).out, 0 ≤ o.n := by
  intro o ho
  simp only [flushW, flushO, List.mem_append] at ho
  rcases ho with ho | ho | ho
  · exact h o ho
  · split at ho
    · cases ho
    · simp only [List.mem_singleton] at ho; subst ho; exact Int.le_refl 0
  · split at ho
    · cases ho
    · simp only [List.mem_singleton] at ho; subst ho; exact Int.le_refl 0
theorem N0s.keep {s : Wst} (h : N0s s) {n : Int} (hn : 0 ≤ n) : N0s (keepW s n) := by
  intro o ho
  simp only [keepW] at ho
  rcases keepO_cases (flushW s).out n with e | ⟨a, p, h1, h2, h3⟩
  · rw [e] at ho
    rcases List.mem_append.1 ho with ho | ho
    · exact h.flush o ho
    · simp only [List.mem_singleton] at ho; subst ho; exact hn
  · rw [h3] at ho
    rcases List.mem_append.1 ho with ho | ho
    · exact h.flush o (by rw [h1]; simp [ho])
    · simp only [List.mem_singleton] at ho; subst ho
      have := h.flush p (by rw [h1]; simp)
      show 0 ≤ p.n + n
      omega
theorem right_n {list d : Int} {o : Op} (h : rightOp list o d = true) : 0 ≤ o.n := by
  have r := rightOp_all h
  cases r with
  | keep n h1 => show 0 ≤ n; omega
  | gone | come | into => exact Int.le_refl 0
theorem N0s.op {list d : Int} {s : Wst} {o : Op} (h : N0s s) (hr : rightOp list o d = true) : N0s (nrmOp list o s) := by
  rw [nrmOp_at]
  split
  · exact h.keep (right_n hr)
  · split
    · exact h
    · split
      · exact h
      · split
        · split
          · exact h.keep (by omega)
          · intro p hp
            rcases List.mem_append.1 hp with hp | hp
            · exact h.flush p hp
            · simp only [List.mem_singleton] at hp; subst hp; exact Int.le_refl 0
        · exact h
def K9 (list : Int) (l : List Tree) : Prop := (∀ t ∈ l, RT_ t) ∧ (list = 9 → ∀ t ∈ l, t.kind = 1)
theorem K9.drop {list : Int} {l : List Tree} (h : K9 list l) (n : Nat) : K9 list (l.drop n) := ⟨fun t ht => h.1 t (List.mem_of_mem_drop ht), fun e t ht => h.2 e t (List.mem_of_mem_drop ht)⟩
theorem rightK9 {d : Int} : ∀ {l : List Tree}, rightK 9 l d = true → ∀ t ∈ l, t.kind = 1
  | [], _, t, ht => by cases ht
  | a :: r, h, t, ht => by
    simp only [rightK, Bool.and_eq_true] at h
    rcases List.mem_cons.1 ht with rfl | ht
    · have := h.1.1
      simpa [kidB] using this
    · exact rightK9 h.2 t ht
theorem RT_.k9 {t : Tree} (h : RT_ t) : K9 t.kind t.kids := by
  refine ⟨h.kids.1, fun e => ?_⟩
  obtain ⟨⟨d, h⟩, _⟩ := h
  obtain ⟨k, w, ks⟩ := t
  have e : k = 9 := e
  subst e
  rw [rightT, if_neg (by omega), if_neg (by omega)] at h
  split at h
  · cases h
  · rw [if_neg (by omega)] at h
    simp only [Bool.and_eq_true] at h
    exact rightK9 h.2
theorem step_do {list d : Int} {s : Wst} {o : Op} (hs : N0s s) (hr : rightOp list o d = true) {rest : List Tree} (hk : K9 list rest) (out : List Tree)
    (ih : ∀ y, RT_ y → rightE o.e d = true → OptR Eqv (doE false (nrmE o.e) y) (doE false o.e y)) :
    OptR Rx (doOs false (flushW (nrmOp list o s)).out rest out) ((doOs false (flushW s).out rest out).bind fun x => doOp false o x.2 x.1) := by
  have keep : ∀ n : Int, 0 ≤ n → doOs false (flushW (keepW s n)).out rest out = (doOs false (flushW s).out rest out).bind fun x => doOp false ⟨0, n, [], Edit.nil⟩ x.2 x.1 := by
    intro n hn
    have e : (flushW (keepW s n)).out = keepO (flushW s).out n := by simp [flushW, flushO, keepW]
    rw [e, keep_do hs.flush hn, doOs_end]
  rw [nrmOp_at]
  have r1 := rightOp_facts' hr
  by_cases h0 : o.kind = 0
  · rw [if_pos h0, keep _ (right_n hr)]
    refine Rx.of ?_
    congr 1
    funext x
    rw [doOp_at, doOp_at, if_pos rfl, if_pos h0]
  · rw [if_neg h0]
    by_cases h1 : o.kind = 1
    · rw [if_pos h1, flush_do, flush_do]
      refine Rx.of ?_
      rw [Option.bind_assoc]
      congr 1
      funext x
      simp only
      rw [goneD_app, goneD_norms]
      by_cases c : goneD s.gone x.2 = true
      · rw [if_pos c, c, Bool.true_and, Option.bind_some, doOp_at, if_neg h0, if_pos h1]
        simp only
        rw [List.drop_drop, show (s.gone ++ normsT o.l).length = s.gone.length + o.l.length by simp [normsT]]
      · rw [if_neg c, if_neg (by simp only [Bool.and_eq_true]; exact fun h => c h.1)]
        rfl
    · rw [if_neg h1]
      by_cases h2 : o.kind = 2
      · rw [if_pos h2, flush_do, flush_do, Option.bind_assoc]
        refine OptR.bind (R := Eq) (OptR.rfl' _) ?_
        rintro x _ rfl
        simp only
        split
        · rw [Option.bind_some, doOp_at, if_neg h0, if_neg h1, if_pos h2]
          refine ⟨?_, rfl⟩
          show normsT (x.1 ++ (s.brought ++ normsT o.l)) = normsT (x.1 ++ s.brought ++ o.l)
          simp only [normsT_append, normsT_idem, List.append_assoc]
        · exact trivial
      · have h3 : o.kind = 3 := by rcases r1 with h | h | h | h <;> first | exact absurd h h0 | exact absurd h h1 | exact absurd h h2 | exact h
        rw [if_neg h2, if_pos h3]
        have hre := right_desc hr h3
        have ra := rightOp_all hr
        by_cases hi : idleE list (nrmE o.e) = true
        · rw [if_pos hi, keep 1 (by omega)]
          cases hx : doOs false (flushW s).out rest out with
          | none => exact trivial
          | some x =>
            obtain ⟨m, hm⟩ := doOs_suffix hx
            have hk2 := hk.drop m
            rw [← hm] at hk2
            simp only [Option.bind_some]
            rw [doOp_at, doOp_at, if_pos rfl, if_neg h0, if_neg h1, if_neg h2]
            cases hx2 : x.2 with
            | nil => exact trivial
            | cons y q =>
              rw [hx2] at hk2
              have hek : o.e.kind ≠ 0 := by
                cases ra with
                | into e _ h => exact h
                | keep | gone | come => exact absurd h3 (by simp)
              simp only [idleE, decide_eq_true_eq, nrmE_kind] at hi
              rcases hi with hi | ⟨hl9, he2, hw, hks⟩
              · exact absurd hi hek
              · have hy := hk2.2 hl9 y List.mem_cons_self
                have hn := nrmE_at o.e
                rw [if_neg (by omega), if_pos he2] at hn
                have e1 : o.e.words = [] := by rw [hn] at hw; exact List.eq_nil_of_length_eq_zero hw
                have e2 : o.e.kids = [] := by
                  rw [hn] at hks
                  have : (nrmKs o.e.kids).length = 0 := hks
                  cases hh : o.e.kids with
                  | nil => rfl
                  | cons a b => rw [hh] at this; simp [nrmKs] at this
                have hd : doE false o.e y = some (.mk 1 y.words y.kids) := by
                  rw [doE_at, if_neg hek, if_neg (by omega), if_pos he2, if_pos hy, e1, e2, wsD, Option.bind_some, doKs]
                  rfl
                rw [if_neg (show ¬ (y :: q).length = 0 by simp), List.getD_cons_zero, hd, if_pos (show Int.toNat 1 ≤ (y :: q).length by simp)]
                refine ⟨?_, rfl⟩
                show normsT (x.1 ++ [y]) = normsT (x.1 ++ [Tree.mk 1 y.words y.kids])
                rw [show Tree.mk 1 y.words y.kids = y by rw [← hy]; exact Tree.eta y]
        · rw [if_neg hi]
          have e : (flushW ⟨(flushW s).out ++ [⟨3, 0, [], nrmE o.e⟩], [], []⟩).out = (flushW s).out ++ [⟨3, 0, [], nrmE o.e⟩] := by simp [flushW, flushO]
          rw [e, doOs_end]
          cases hx : doOs false (flushW s).out rest out with
          | none => exact trivial
          | some x =>
            obtain ⟨m, hm⟩ := doOs_suffix hx
            have hk2 := hk.drop m
            rw [← hm] at hk2
            simp only [Option.bind_some]
            rw [doOp_at, doOp_at, if_neg h0, if_neg h1, if_neg h2, if_neg (by show ¬ (3 : Int) = 0; omega), if_neg (by show ¬ (3 : Int) = 1; omega), if_neg (by show ¬ (3 : Int) = 2; omega)]
            refine OptR.ite Iff.rfl (fun _ => trivial) fun _ => ?_
            exact (ih _ (RT_get hk2.1 0) hre).map fun u v h => ⟨norms_app rfl (norms_one.2 h), rfl⟩
mutual
theorem nrm_do : ∀ (e : Edit) (d : Int) (t : Tree), rightE e d = true → RT_ t → OptR Eqv (doE false (nrmE e) t) (doE false e t)
  | .mk k o n w ks l os, d, t, hr, ht => by
    have ri := rightE_all hr
    have h1 := nrm_doKs ks
    have h2 := nrm_doOs l os
    have hkid := ht.kids.1
    have hn : nrmE (.mk k o n w ks l os) = if k = 1 then .mk k (normT o) (normT n) [] [] l [] else if k = 2 then .mk k Tree.nil Tree.nil w (nrmKs ks) l [] else if k = 3 then .mk k Tree.nil Tree.nil [] [] l (flushW (nrmOs l os ⟨[], [], []⟩)).out else .mk k Tree.nil Tree.nil [] [] l [] := by rw [nrmE]
    rw [doE_raw, doE_raw, nrD_false, nrD_false]
    by_cases c1 : k = 1
    · subst c1
      rw [if_pos rfl] at hn
      unfold rawE
      rw [hn]
      refine OptR.ite Iff.rfl (fun _ => rfl) fun _ => OptR.ite Iff.rfl (fun _ => ?_) (fun h => absurd rfl h)
      show OptR Eqv (if sameT (normT (normT o)) (normT t) = true then some (normT n) else none) (if sameT (normT o) (normT t) = true then some n else none)
      rw [normT_idem]
      exact OptR.ite Iff.rfl (fun _ => normT_idem n) (fun _ => trivial)
    · by_cases c2 : k = 2
      · subst c2
        rw [if_neg c1, if_pos rfl] at hn
        unfold rawE
        rw [hn]
        refine OptR.ite Iff.rfl (fun _ => rfl) fun _ => OptR.ite Iff.rfl (fun h => absurd h c1) fun _ => OptR.ite Iff.rfl (fun _ => ?_) (fun h => absurd rfl h)
        refine OptR.ite Iff.rfl (fun ht1 => ?_) (fun _ => trivial)
        refine OptR.bind (R := Eq) (OptR.rfl' _) ?_
        rintro a _ rfl
        exact (h1 (d - 1) t.kids t.kids t.kids (fun k hk => (rightKs_all ri.kids k hk).2) hkid rfl).map fun x y h => normT_mk _ _ h
      · by_cases c3 : k = 3
        · subst c3
          rw [if_neg c1, if_neg c2, if_pos rfl] at hn
          unfold rawE
          rw [hn]
          refine OptR.ite Iff.rfl (fun _ => rfl) fun _ => OptR.ite Iff.rfl (fun h => absurd h c1) fun _ => OptR.ite Iff.rfl (fun h => absurd h c2) fun _ => OptR.ite Iff.rfl (fun _ => ?_) (fun h => absurd rfl h)
          refine OptR.ite Iff.rfl (fun ht1 => ?_) (fun _ => trivial)
          have hk9 := ht.k9
          rw [ht1] at hk9
          have := h2 (d - 1) ⟨[], [], []⟩ t.kids [] (fun o ho => Go.AM.rightOs_mem ri.ops o ho) (fun o ho => by cases ho) hk9
          exact (endD_rel this).map fun x y h => normT_mk _ _ h
        · have e0 : k = 0 := by have := ri.kind; have : 0 ≤ k ∧ k ≤ 3 := this; omega
          subst e0
          rw [if_neg c1, if_neg c2, if_neg c3] at hn
          unfold rawE
          rw [hn]
          exact OptR.ite Iff.rfl (fun _ => rfl) fun h => absurd rfl h
theorem nrm_doKs : ∀ (ks : List (KidOf Edit)) (d : Int) (tk a b : List Tree), (∀ k ∈ ks, rightE k.e d = true) → (∀ t ∈ tk, RT_ t) → EqvL a b → OptR EqvL (doKs false tk (nrmKs ks) a) (doKs false tk ks b)
  | [], d, tk, a, b, _, _, h => by rw [nrmKs]; exact h
  | k :: r, d, tk, a, b, hr, ht, h => by
    rw [nrmKs, doKs, doKs]
    have e : (nrmKid k).at_ = k.at_ := by cases k; rfl
    rw [e]
    refine (nrm_doKid k d tk (hr k List.mem_cons_self) ht).bind fun x y hxy => nrm_doKs r d tk _ _ (fun q hq => hr q (List.mem_cons_of_mem _ hq)) ht (norms_pad h hxy)
theorem nrm_doKid : ∀ (k : KidOf Edit) (d : Int) (tk : List Tree), rightE k.e d = true → (∀ t ∈ tk, RT_ t) → OptR Eqv (doKid false tk (nrmKid k)) (doKid false tk k)
  | ⟨a, e⟩, d, tk, hr, ht => by rw [nrmKid, doKid, doKid]; exact nrm_do e d _ hr (RT_get ht _)
theorem nrm_doOs (list : Int) : ∀ (os : List (OpOf Edit)) (d : Int) (s : Wst) (rest out : List Tree), (∀ o ∈ os, rightOp list o d = true) → N0s s → K9 list rest → OptR Rx (doOs false (flushW (nrmOs list os s)).out rest out) (doOs false ((flushW s).out ++ os) rest out)
  | [], d, s, rest, out, _, _, _ => by rw [nrmOs, List.append_nil]; exact Rx.rfl' _
  | o :: r, d, s, rest, out, hr, hs, hk => by
    have ho := hr o List.mem_cons_self
    have st := step_do hs ho hk out (nrm_doOp o d)
    rw [nrmOs]
    refine Rx.trans (nrm_doOs list r d _ rest out (fun q hq => hr q (List.mem_cons_of_mem _ hq)) (hs.op ho) hk) ?_
    rw [doOs_app, doOs_app]
    have e : ∀ x : List Tree × List Tree, doOs false (o :: r) x.2 x.1 = (doOp false o x.2 x.1).bind fun y => doOs false r y.2 y.1 := fun x => by rw [doOs]
    rw [show (fun x : List Tree × List Tree => doOs false (o :: r) x.2 x.1) = fun x => (doOp false o x.2 x.1).bind fun y => doOs false r y.2 y.1 from funext e, ← Option.bind_assoc]
    exact st.bind fun x y hxy => doOs_eqv r _ _ _ _ hxy.2 hxy.1 (fun q hq => ⟨_, _, hr q (List.mem_cons_of_mem _ hq)⟩)
theorem nrm_doOp : ∀ (o : OpOf Edit) (d : Int), ∀ y, RT_ y → rightE o.e d = true → OptR Eqv (doE false (nrmE o.e) y) (doE false o.e y)
  | ⟨_, _, _, e⟩, d, y, hy, hr => nrm_do e d y hr hy
end
end Go.AM.Ytlahjnelghpmeaa

namespace Go.AM.Ytlahjnelghpmeaa
open Go.AM Go.Proofs
abbrev TrG22c (p : Prop) : Prop := p → p
def args107 : ArgM ((List Op × List Tree × List Tree × Unit) × Unit) := (.obj 0 (.cons (cWr .op 0 0) (.cons (cOwn .tree 0 1) (.cons (cOwn .tree 0 2) .nil))) .nil)
def pre107 (a : (List Op × List Tree × List Tree × Unit) × Unit) : Prop := (a.1.1).length ≤ 100000000 ∧ (a.1.2.1).length ≤ 100000000 ∧ (a.1.2.2.1).length ≤ 100000000
noncomputable def res107 (a : (List Op × List Tree × List Tree × Unit) × Unit) : V U := .tup []
noncomputable def resX107 (a : (List Op × List Tree × List Tree × Unit) × Unit) : List (List (C U)) := [[.mref (.x 0 0), .slice (U := U) .tree ((flushW (Wst.mk a.1.1 a.1.2.1 a.1.2.2.1)).gone) (.own (.x 0 1)), .slice (U := U) .tree ((flushW (Wst.mk a.1.1 a.1.2.1 a.1.2.2.1)).brought) (.own (.x 0 2))]]
noncomputable def resL107 (a : (List Op × List Tree × List Tree × Unit) × Unit) : List (Tok × LC U) := [(.x 0 0, LC.mk (U := U) .op ((flushW (Wst.mk a.1.1 a.1.2.1 a.1.2.2.1)).out) 0)]
noncomputable def spec107 : Fs U := fsXL args107 (fun a => [pre107 a]) res107 resX107 resL107
def args105 : ArgM ((List Op × List Tree × List Tree × Unit) × Int × Unit) := (.obj 0 (.cons (cWr .op 0 0) (.cons (cOwn .tree 0 1) (.cons (cOwn .tree 0 2) .nil))) (.cons (aInt .i64) .nil))
def pre105 (a : (List Op × List Tree × List Tree × Unit) × Int × Unit) : Prop := (a.1.1).length ≤ 100000000 ∧ (a.1.2.1).length ≤ 100000000 ∧ (a.1.2.2.1).length ≤ 100000000 ∧ (∀ o ∈ a.1.1, 0 ≤ o.n ∧ o.n ≤ 100000000000000) ∧ 0 ≤ a.2.1 ∧ a.2.1 ≤ 1048576
noncomputable def res105 (a : (List Op × List Tree × List Tree × Unit) × Int × Unit) : V U := .tup []
noncomputable def resX105 (a : (List Op × List Tree × List Tree × Unit) × Int × Unit) : List (List (C U)) := [[.mref (.x 0 0), .slice (U := U) .tree ((keepW (Wst.mk a.1.1 a.1.2.1 a.1.2.2.1) a.2.1).gone) (.own (.x 0 1)), .slice (U := U) .tree ((keepW (Wst.mk a.1.1 a.1.2.1 a.1.2.2.1) a.2.1).brought) (.own (.x 0 2))]]
noncomputable def resL105 (a : (List Op × List Tree × List Tree × Unit) × Int × Unit) : List (Tok × LC U) := [(.x 0 0, LC.mk (U := U) .op ((keepW (Wst.mk a.1.1 a.1.2.1 a.1.2.2.1) a.2.1).out) 0)]
noncomputable def spec105 : Fs U := fsXL args105 (fun a => [pre105 a]) res105 resX105 resL105
def args106 : ArgM ((List Op × List Tree × List Tree × Unit) × List Tree × Unit) := (.objAt 0 1 (.cons (cWr .op 0 0) (.cons (cOwn .tree 0 1) (.cons (cOwn .tree 0 2) .nil))) (.cons (aSl .tree) .nil))
def pre106 (a : (List Op × List Tree × List Tree × Unit) × List Tree × Unit) : Prop := (a.1.1).length ≤ 100000000 ∧ (a.1.2.1).length ≤ 100000000 ∧ (a.1.2.2.1).length ≤ 100000000 ∧ massK a.2.1 ≤ 1000000
noncomputable def res106 (a : (List Op × List Tree × List Tree × Unit) × List Tree × Unit) : V U := .tup []
noncomputable def resX106 (a : (List Op × List Tree × List Tree × Unit) × List Tree × Unit) : List (List (C U)) := [[.mref (.x 0 0), .slice (U := U) .tree ((Wst.mk a.1.1 (a.1.2.1 ++ normsT a.2.1) a.1.2.2.1).gone) (.own (.x 0 1)), .slice (U := U) .tree ((Wst.mk a.1.1 (a.1.2.1 ++ normsT a.2.1) a.1.2.2.1).brought) (.own (.x 0 2))]]
noncomputable def resL106 (a : (List Op × List Tree × List Tree × Unit) × List Tree × Unit) : List (Tok × LC U) := [(.x 0 0, LC.mk (U := U) .op ((Wst.mk a.1.1 (a.1.2.1 ++ normsT a.2.1) a.1.2.2.1).out) 0)]
noncomputable def spec106 : Fs U := fsXL args106 (fun a => [pre106 a]) res106 resX106 resL106
def args1106 : ArgM ((List Op × List Tree × List Tree × Unit) × List Tree × Unit) := (.objAt 0 2 (.cons (cWr .op 0 0) (.cons (cOwn .tree 0 1) (.cons (cOwn .tree 0 2) .nil))) (.cons (aSl .tree) .nil))
def pre1106 (a : (List Op × List Tree × List Tree × Unit) × List Tree × Unit) : Prop := (a.1.1).length ≤ 100000000 ∧ (a.1.2.1).length ≤ 100000000 ∧ (a.1.2.2.1).length ≤ 100000000 ∧ massK a.2.1 ≤ 1000000
noncomputable def res1106 (a : (List Op × List Tree × List Tree × Unit) × List Tree × Unit) : V U := .tup []
noncomputable def resX1106 (a : (List Op × List Tree × List Tree × Unit) × List Tree × Unit) : List (List (C U)) := [[.mref (.x 0 0), .slice (U := U) .tree ((Wst.mk a.1.1 a.1.2.1 (a.1.2.2.1 ++ normsT a.2.1)).gone) (.own (.x 0 1)), .slice (U := U) .tree ((Wst.mk a.1.1 a.1.2.1 (a.1.2.2.1 ++ normsT a.2.1)).brought) (.own (.x 0 2))]]
noncomputable def resL1106 (a : (List Op × List Tree × List Tree × Unit) × List Tree × Unit) : List (Tok × LC U) := [(.x 0 0, LC.mk (U := U) .op ((Wst.mk a.1.1 a.1.2.1 (a.1.2.2.1 ++ normsT a.2.1)).out) 0)]
noncomputable def spec1106 : Fs U := fsXL args1106 (fun a => [pre1106 a]) res1106 resX1106 resL1106
def args1042 : ArgL (Int × Edit × Unit) := (.cons (aInt .i64) (.cons (aEl .edit) .nil))
def pre1042 (a : Int × Edit × Unit) : Prop := (Edit.words a.2.1).length ≤ 1000000 ∧ (Edit.kids a.2.1).length ≤ 1000000
noncomputable def res1042 (a : Int × Edit × Unit) : V U := .c (.bool (idleE a.1 a.2.1))
noncomputable def spec1042 : Fs U := fs args1042 (fun a => [pre1042 a]) res1042
noncomputable def know107 : List (FuncId × Fs U) := []
def lv107 : Lives U := fun i => match i with
  | 0 => ([(0, []), (7, [])], [((.x 0), [.wr .op])])
  | 1 => ([(0, [])], [((.x 0), [.wr .op])])
  | 2 => ([(0, []), (28, [])], [((.x 0), [.wr .op])])
  | 3 => ([(0, [])], [((.x 0), [.wr .op])])
  | 4 => ([], [((.x 0), [.wr .op])])
  | _ => ([], [])
abbrev W107 (wo : List Op) (wg : List Tree) (wb : List Tree) (Q : AExit → LSt U → Prop) := awp cfg (know know107) (drawOk cfg (know know107)) Try.f107.ntmps lv107 (cd Try.f107 []) (⟨[(0, .ptr (.x 0) 0)], [((.x 0), [.mref (.x 0 0), .slice (U := U) .tree wg (.own (.x 0 1)), .slice (U := U) .tree wb (.own (.x 0 2))])], [(.x 0 0, LC.mk (U := U) .op wo 0)]⟩ : LSt U) Q
theorem vc107 (wo : List Op) (wg : List Tree) (wb : List Tree) (Q : AExit → LSt U → Prop) (h : ∀ y_1, y_1 = (Edit.mk 0 (Tree.mk 0 ([]) ([])) (Tree.mk 0 ([]) ([])) ([]) ([]) 0 ([])) → ∀ y_2, y_2 = (List.set (wo ++ ([(OpOf.mk 0 0 ([]) y_1 : Op)])) (Int.toNat (wo.length : Int)) (OpOf.mk 1 0 wg y_1 : Op)) → ((decide ((0 : Int) < (wg.length : Int))) = true → ((wo.length + ([(OpOf.mk 0 0 ([]) y_1 : Op)]).length) * 240 ≤ 140737488355328) ∧ ((0 : Int) ≤ (wo.length : Int) ∧ (wo.length : Int) < ((wo ++ ([(OpOf.mk 0 0 ([]) y_1 : Op)])).length : Int)) ∧ ((0 : Nat) ≤ (Int.toNat (wo.length : Int))) ∧ (((decide ((0 : Int) < (wb.length : Int))) = true → ((y_2.length + ([(OpOf.mk 0 0 ([]) y_1 : Op)]).length) * 240 ≤ 140737488355328) ∧ ((0 : Int) ≤ (y_2.length : Int) ∧ (y_2.length : Int) < ((y_2 ++ ([(OpOf.mk 0 0 ([]) y_1 : Op)])).length : Int)) ∧ ((0 : Nat) ≤ (Int.toNat (y_2.length : Int))) ∧ (Q .normal (⟨[], [((.x 0), [.mref (.x 0 0), .nils, .nils])], [(.x 0 0, LC.mk (U := U) .op (List.set (y_2 ++ ([(OpOf.mk 0 0 ([]) y_1 : Op)])) (Int.toNat (y_2.length : Int)) (OpOf.mk 2 0 wb y_1 : Op)) 0)]⟩ : LSt U))) ∧ ((decide ((0 : Int) < (wb.length : Int))) = false → Q .normal (⟨[], [((.x 0), [.mref (.x 0 0), .nils, .nils])], [(.x 0 0, LC.mk (U := U) .op y_2 0)]⟩ : LSt U)))) ∧ ((decide ((0 : Int) < (wg.length : Int))) = false → ((decide ((0 : Int) < (wb.length : Int))) = true → ((wo.length + ([(OpOf.mk 0 0 ([]) y_1 : Op)]).length) * 240 ≤ 140737488355328) ∧ ((0 : Int) ≤ (wo.length : Int) ∧ (wo.length : Int) < ((wo ++ ([(OpOf.mk 0 0 ([]) y_1 : Op)])).length : Int)) ∧ ((0 : Nat) ≤ (Int.toNat (wo.length : Int))) ∧ (Q .normal (⟨[], [((.x 0), [.mref (.x 0 0), .nils, .nils])], [(.x 0 0, LC.mk (U := U) .op (List.set (wo ++ ([(OpOf.mk 0 0 ([]) y_1 : Op)])) (Int.toNat (wo.length : Int)) (OpOf.mk 2 0 wb y_1 : Op)) 0)]⟩ : LSt U))) ∧ ((decide ((0 : Int) < (wb.length : Int))) = false → Q .normal (⟨[], [((.x 0), [.mref (.x 0 0), .nils, .nils])], [(.x 0 0, LC.mk (U := U) .op wo 0)]⟩ : LSt U)))) :
    W107 wo wg wb Q := by
  have e_ : (W107 wo wg wb Q) = (let y_1 := (Edit.mk 0 (Tree.mk 0 ([]) ([])) (Tree.mk 0 ([]) ([])) ([]) ([]) 0 ([])); let y_2 := (List.set (wo ++ ([(OpOf.mk 0 0 ([]) y_1 : Op)])) (Int.toNat (wo.length : Int)) (OpOf.mk 1 0 wg y_1 : Op)); let zz0 := (decide ((0 : Int) < (wb.length : Int))); (((decide ((0 : Int) < (wg.length : Int))) = true → ((wo.length + ([(OpOf.mk 0 0 ([]) y_1 : Op)]).length) * 240 ≤ 140737488355328) ∧ ((0 : Int) ≤ (wo.length : Int) ∧ (wo.length : Int) < ((wo ++ ([(OpOf.mk 0 0 ([]) y_1 : Op)])).length : Int)) ∧ ((0 : Nat) ≤ (Int.toNat (wo.length : Int))) ∧ (((zz0 = true → ((y_2.length + ([(OpOf.mk 0 0 ([]) y_1 : Op)]).length) * 240 ≤ 140737488355328) ∧ ((0 : Int) ≤ (y_2.length : Int) ∧ (y_2.length : Int) < ((y_2 ++ ([(OpOf.mk 0 0 ([]) y_1 : Op)])).length : Int)) ∧ ((0 : Nat) ≤ (Int.toNat (y_2.length : Int))) ∧ ((Q .normal (⟨[], [((.x 0), [.mref (.x 0 0), .nils, .nils])], [(.x 0 0, LC.mk (U := U) .op (List.set (y_2 ++ ([(OpOf.mk 0 0 ([]) y_1 : Op)])) (Int.toNat (y_2.length : Int)) (OpOf.mk 2 0 wb y_1 : Op)) 0)]⟩ : LSt U)))) ∧ (zz0 = false → (Q .normal (⟨[], [((.x 0), [.mref (.x 0 0), .nils, .nils])], [(.x 0 0, LC.mk (U := U) .op y_2 0)]⟩ : LSt U)))))) ∧ ((decide ((0 : Int) < (wg.length : Int))) = false → ((zz0 = true → ((wo.length + ([(OpOf.mk 0 0 ([]) y_1 : Op)]).length) * 240 ≤ 140737488355328) ∧ ((0 : Int) ≤ (wo.length : Int) ∧ (wo.length : Int) < ((wo ++ ([(OpOf.mk 0 0 ([]) y_1 : Op)])).length : Int)) ∧ ((0 : Nat) ≤ (Int.toNat (wo.length : Int))) ∧ ((Q .normal (⟨[], [((.x 0), [.mref (.x 0 0), .nils, .nils])], [(.x 0 0, LC.mk (U := U) .op (List.set (wo ++ ([(OpOf.mk 0 0 ([]) y_1 : Op)])) (Int.toNat (wo.length : Int)) (OpOf.mk 2 0 wb y_1 : Op)) 0)]⟩ : LSt U)))) ∧ (zz0 = false → (Q .normal (⟨[], [((.x 0), [.mref (.x 0 0), .nils, .nils])], [(.x 0 0, LC.mk (U := U) .op wo 0)]⟩ : LSt U))))))) := by kernel_rfl
  exact e_.mpr (by intro y_1 y_2; have hh := h y_1 rfl y_2 rfl; exact ⟨fun c_1 => ⟨(hh.1 c_1).1, (hh.1 c_1).2.1, (hh.1 c_1).2.2.1, ⟨fun c_2 => ⟨((hh.1 c_1).2.2.2.1 c_2).1, ((hh.1 c_1).2.2.2.1 c_2).2.1, ((hh.1 c_1).2.2.2.1 c_2).2.2.1, ((hh.1 c_1).2.2.2.1 c_2).2.2.2⟩, fun c_2 => ((hh.1 c_1).2.2.2.2 c_2)⟩⟩, fun c_1 => ⟨fun c_3 => ⟨((hh.2 c_1).1 c_3).1, ((hh.2 c_1).1 c_3).2.1, ((hh.2 c_1).1 c_3).2.2.1, ((hh.2 c_1).1 c_3).2.2.2⟩, fun c_3 => ((hh.2 c_1).2 c_3)⟩⟩)
def Body107 (wo : List Op) (wg : List Tree) (wb : List Tree)  : Prop := awp cfg (know (know107)) (drawOk cfg (know (know107))) Try.f107.ntmps lv107 (cd Try.f107 []) (entryL (args107.can ((wo, wg, wb, ()), ())) (args107.canX ((wo, wg, wb, ()), ())) (args107.canL ((wo, wg, wb, ()), ()))) (EndsQL cfg Try.f107.ntmps Try.f107.results.toList (res107 ((wo, wg, wb, ()), ())) (resX107 ((wo, wg, wb, ()), ())) (resL107 ((wo, wg, wb, ()), ())))
theorem make107 (hb : ∀ (wo : List Op) (wg : List Tree) (wb : List Tree) (_ : Unit), pre107 ((wo, wg, wb, ()), ()) → Body107 wo wg wb) : Contract Try.prog cfg 107 spec107 :=
  contractXL_flat (l := []) cfgOk rfl (trivial) lv107 Try.func107 rfl rfl 1 (fun _ => rfl) (by decide) (fun ⟨⟨wo, wg, wb, _⟩, _⟩ => hb wo wg wb ())
noncomputable def know105 : List (FuncId × Fs U) := [(107, spec107)]
def lv105 : Lives U := fun i => match i with
  | 0 => ([(0, []), (1, [])], [((.x 0), [.wr .op])])
  | 1 => ([(0, []), (1, []), (4, [])], [((.x 0), [.wr .op])])
  | 2 => ([(0, []), (1, []), (4, []), (25, [])], [((.x 0), [.wr .op])])
  | 3 => ([], [((.x 0), [.wr .op])])
  | 4 => ([], [((.x 0), [.wr .op])])
  | _ => ([], [])
abbrev W105 (wo : List Op) (wg : List Tree) (wb : List Tree) (n : Int) (Q : AExit → LSt U → Prop) := awp cfg (know know105) (drawOk cfg (know know105)) Try.f105.ntmps lv105 (cd Try.f105 []) (⟨[(0, .ptr (.x 0) 0), (1, .c (.int .i64 n))], [((.x 0), [.mref (.x 0 0), .slice (U := U) .tree wg (.own (.x 0 1)), .slice (U := U) .tree wb (.own (.x 0 2))])], [(.x 0 0, LC.mk (U := U) .op wo 0)]⟩ : LSt U) Q
theorem vc105 (wo : List Op) (wg : List Tree) (wb : List Tree) (n : Int) (Q : AExit → LSt U → Prop) (h : ∀ y_1, y_1 = (Edit.mk 0 (Tree.mk 0 ([]) ([])) (Tree.mk 0 ([]) ([])) ([]) ([]) 0 ([])) → ∀ y_2, y_2 = (Int.toNat (((((flushW (Wst.mk wo wg wb)).out).length : Int) : Int) - 1)) → ∀ y_3, y_3 = (List.getD ((flushW (Wst.mk wo wg wb)).out) y_2 Op.nil) → ∀ y_4, y_4 = ((OpOf.e y_3)) → (pre107 ((wo, wg, wb, ()), ())) ∧ ((InR (((((flushW (Wst.mk wo wg wb)).out).length : Int) : Int) - 1)) ∧ (((decide ((0 : Int) ≤ (((((flushW (Wst.mk wo wg wb)).out).length : Int) : Int) - 1))) = true → (0 : Int) ≤ (((((flushW (Wst.mk wo wg wb)).out).length : Int) : Int) - 1) ∧ (((((flushW (Wst.mk wo wg wb)).out).length : Int) : Int) - 1) < (((flushW (Wst.mk wo wg wb)).out).length : Int)) ∧ (((bif (decide ((0 : Int) ≤ (((((flushW (Wst.mk wo wg wb)).out).length : Int) : Int) - 1))) then (((OpOf.kind y_3) : Int) == 0) else false) = true → ((0 : Int) ≤ (((((flushW (Wst.mk wo wg wb)).out).length : Int) : Int) - 1) ∧ (((((flushW (Wst.mk wo wg wb)).out).length : Int) : Int) - 1) < (((flushW (Wst.mk wo wg wb)).out).length : Int)) ∧ (InR (((OpOf.n y_3) : Int) + n)) ∧ ((0 : Int) ≤ (((((flushW (Wst.mk wo wg wb)).out).length : Int) : Int) - 1) ∧ (((((flushW (Wst.mk wo wg wb)).out).length : Int) : Int) - 1) < (((flushW (Wst.mk wo wg wb)).out).length : Int)) ∧ ((0 : Nat) ≤ y_2) ∧ (Q .ret (⟨[], [((.x 0), [.mref (.x 0 0), .slice (U := U) .tree ((flushW (Wst.mk wo wg wb)).gone) (.own (.x 0 1)), .slice (U := U) .tree ((flushW (Wst.mk wo wg wb)).brought) (.own (.x 0 2))])], [(.x 0 0, LC.mk (U := U) .op (List.set ((flushW (Wst.mk wo wg wb)).out) y_2 (OpOf.mk (OpOf.kind y_3) (((OpOf.n y_3) : Int) + n) (OpOf.l y_3) y_4 : Op)) 0)]⟩ : LSt U))) ∧ ((bif (decide ((0 : Int) ≤ (((((flushW (Wst.mk wo wg wb)).out).length : Int) : Int) - 1))) then (((OpOf.kind y_3) : Int) == 0) else false) = false → ((((flushW (Wst.mk wo wg wb)).out).length + ([(OpOf.mk 0 0 ([]) y_1 : Op)]).length) * 240 ≤ 140737488355328) ∧ ((0 : Int) ≤ (((flushW (Wst.mk wo wg wb)).out).length : Int) ∧ (((flushW (Wst.mk wo wg wb)).out).length : Int) < ((((flushW (Wst.mk wo wg wb)).out) ++ ([(OpOf.mk 0 0 ([]) y_1 : Op)])).length : Int)) ∧ ((0 : Nat) ≤ (Int.toNat (((flushW (Wst.mk wo wg wb)).out).length : Int))) ∧ (Q .normal (⟨[], [((.x 0), [.mref (.x 0 0), .slice (U := U) .tree ((flushW (Wst.mk wo wg wb)).gone) (.own (.x 0 1)), .slice (U := U) .tree ((flushW (Wst.mk wo wg wb)).brought) (.own (.x 0 2))])], [(.x 0 0, LC.mk (U := U) .op (List.set (((flushW (Wst.mk wo wg wb)).out) ++ ([(OpOf.mk 0 0 ([]) y_1 : Op)])) (Int.toNat (((flushW (Wst.mk wo wg wb)).out).length : Int)) (OpOf.mk 0 n ([]) y_1 : Op)) 0)]⟩ : LSt U))))))) :
    W105 wo wg wb n Q := by
  have e_ : (W105 wo wg wb n Q) = (let y_1 := (Edit.mk 0 (Tree.mk 0 ([]) ([])) (Tree.mk 0 ([]) ([])) ([]) ([]) 0 ([])); let y_2 := (Int.toNat (((((flushW (Wst.mk wo wg wb)).out).length : Int) : Int) - 1)); let y_3 := (List.getD ((flushW (Wst.mk wo wg wb)).out) y_2 Op.nil); let y_4 := (reEdit (OpOf.e y_3)); let zz0 := (decide ((0 : Int) ≤ (((((flushW (Wst.mk wo wg wb)).out).length : Int) : Int) - 1))); (pre107 ((wo, wg, wb, ()), ())) ∧ ((InR (((((flushW (Wst.mk wo wg wb)).out).length : Int) : Int) - 1)) ∧ ((TrG22c (zz0 = true)) ∧ (TrG22c (zz0 = true)) ∧ (TrG22c (zz0 = true)) ∧ (TrG22c (zz0 = true)) ∧ (TrG22c (zz0 = true)) ∧ (zz0 = true → (0 : Int) ≤ (((((flushW (Wst.mk wo wg wb)).out).length : Int) : Int) - 1) ∧ (((((flushW (Wst.mk wo wg wb)).out).length : Int) : Int) - 1) < (((flushW (Wst.mk wo wg wb)).out).length : Int)) ∧ (TrG22c (zz0 = true)) ∧ (TrG22c (zz0 = true)) ∧ (TrG22c (zz0 = true)) ∧ ((TrG22c (zz0 = true))) ∧ (((bif zz0 then ((OpOf.kind y_3) == 0) else false) = true → ((0 : Int) ≤ (((((flushW (Wst.mk wo wg wb)).out).length : Int) : Int) - 1) ∧ (((((flushW (Wst.mk wo wg wb)).out).length : Int) : Int) - 1) < (((flushW (Wst.mk wo wg wb)).out).length : Int)) ∧ (InR ((OpOf.n y_3) + n)) ∧ ((0 : Int) ≤ (((((flushW (Wst.mk wo wg wb)).out).length : Int) : Int) - 1) ∧ (((((flushW (Wst.mk wo wg wb)).out).length : Int) : Int) - 1) < (((flushW (Wst.mk wo wg wb)).out).length : Int)) ∧ ((0 : Nat) ≤ y_2) ∧ (Q .ret (⟨[], [((.x 0), [.mref (.x 0 0), .slice (U := U) .tree ((flushW (Wst.mk wo wg wb)).gone) (.own (.x 0 1)), .slice (U := U) .tree ((flushW (Wst.mk wo wg wb)).brought) (.own (.x 0 2))])], [(.x 0 0, LC.mk (U := U) .op (List.set ((flushW (Wst.mk wo wg wb)).out) y_2 (OpOf.mk (OpOf.kind y_3) ((OpOf.n y_3) + n) (OpOf.l y_3) y_4 : Op)) 0)]⟩ : LSt U))) ∧ ((bif zz0 then ((OpOf.kind y_3) == 0) else false) = false → ((((flushW (Wst.mk wo wg wb)).out).length + ([(OpOf.mk 0 0 ([]) y_1 : Op)]).length) * 240 ≤ 140737488355328) ∧ ((0 : Int) ≤ (((flushW (Wst.mk wo wg wb)).out).length : Int) ∧ (((flushW (Wst.mk wo wg wb)).out).length : Int) < ((((flushW (Wst.mk wo wg wb)).out) ++ ([(OpOf.mk 0 0 ([]) y_1 : Op)])).length : Int)) ∧ ((0 : Nat) ≤ (Int.toNat (((flushW (Wst.mk wo wg wb)).out).length : Int))) ∧ (Q .normal (⟨[], [((.x 0), [.mref (.x 0 0), .slice (U := U) .tree ((flushW (Wst.mk wo wg wb)).gone) (.own (.x 0 1)), .slice (U := U) .tree ((flushW (Wst.mk wo wg wb)).brought) (.own (.x 0 2))])], [(.x 0 0, LC.mk (U := U) .op (List.set (((flushW (Wst.mk wo wg wb)).out) ++ ([(OpOf.mk 0 0 ([]) y_1 : Op)])) (Int.toNat (((flushW (Wst.mk wo wg wb)).out).length : Int)) (OpOf.mk 0 n ([]) y_1 : Op)) 0)]⟩ : LSt U))))))) := by kernel_rfl
  exact e_.mpr (by intro y_1 y_2 y_3 y_4; have hh := h y_1 rfl y_2 rfl y_3 rfl y_4 (reEdit_eq _); exact ⟨hh.1, ⟨hh.2.1, ⟨id, id, id, id, id, hh.2.2.1, id, id, id, (by generalize (decide ((0 : Int) ≤ (((((flushW (Wst.mk wo wg wb)).out).length : Int) : Int) - 1))) = b0; revert b0; decide), ⟨fun c_4 => ⟨(hh.2.2.2.1 c_4).1, (hh.2.2.2.1 c_4).2.1, (hh.2.2.2.1 c_4).2.2.1, (hh.2.2.2.1 c_4).2.2.2.1, (hh.2.2.2.1 c_4).2.2.2.2⟩, fun c_4 => ⟨(hh.2.2.2.2 c_4).1, (hh.2.2.2.2 c_4).2.1, (hh.2.2.2.2 c_4).2.2.1, (hh.2.2.2.2 c_4).2.2.2⟩⟩⟩⟩⟩)
def Body105 (wo : List Op) (wg : List Tree) (wb : List Tree) (n : Int)  : Prop := awp cfg (know (know105)) (drawOk cfg (know (know105))) Try.f105.ntmps lv105 (cd Try.f105 []) (entryL (args105.can ((wo, wg, wb, ()), n, ())) (args105.canX ((wo, wg, wb, ()), n, ())) (args105.canL ((wo, wg, wb, ()), n, ()))) (EndsQL cfg Try.f105.ntmps Try.f105.results.toList (res105 ((wo, wg, wb, ()), n, ())) (resX105 ((wo, wg, wb, ()), n, ())) (resL105 ((wo, wg, wb, ()), n, ())))
theorem make105 (c107 : Contract Try.prog cfg 107 spec107) (hb : ∀ (wo : List Op) (wg : List Tree) (wb : List Tree) (n : Int) (_ : Unit), pre105 ((wo, wg, wb, ()), n, ()) → Body105 wo wg wb n) : Contract Try.prog cfg 105 spec105 :=
  contractXL_flat (l := [(107, spec107)]) cfgOk rfl (⟨c107, trivial⟩) lv105 Try.func105 rfl rfl 2 (fun _ => rfl) (by decide) (fun ⟨⟨wo, wg, wb, _⟩, n, _⟩ => hb wo wg wb n ())
noncomputable def know106 : List (FuncId × Fs U) := [(32, spec32)]
def lv106 : Lives U := fun i => match i with
  | 0 => ([(0, []), (6, []), (7, []), (8, [])], [((.x 0), [.wr .op])])
  | 1 => ([(0, []), (6, []), (7, []), (8, []), (9, [])], [((.x 0), [.wr .op])])
  | 2 => ([(0, []), (5, []), (6, []), (7, []), (8, [])], [((.loc 5), []), ((.x 0), [.wr .op])])
  | 3 => ([(0, []), (6, []), (7, []), (8, [])], [((.x 0), [.wr .op])])
  | 4 => ([(0, []), (6, []), (7, []), (8, [])], [((.x 0), [.wr .op])])
  | _ => ([], [])
def head106_0 (wo : List Op) (wg : List Tree) (wb : List Tree) (l : List Tree) (x8 : Int) (mx0_1 : List Tree) : LSt U := (⟨[(0, .ptr (.x 0) 1), (6, .c (.slice (U := U) .tree l .unk)), (7, .c (.int .i64 (l.length : Int))), (8, .c (.int .i64 x8))], [((.x 0), [.mref (.x 0 0), .slice (U := U) .tree mx0_1 (.own (.x 0 1)), .slice (U := U) .tree wb (.own (.x 0 2))])], [(.x 0 0, LC.mk (U := U) .op wo 0)]⟩ : LSt U)
abbrev W106 (wo : List Op) (wg : List Tree) (wb : List Tree) (l : List Tree) (Q : AExit → LSt U → Prop) := awp cfg (know know106) (drawOk cfg (know know106)) Try.f106.ntmps lv106 (cd Try.f106 []) (⟨[(0, .ptr (.x 0) 1), (1, .c (.slice (U := U) .tree l .unk))], [((.x 0), [.mref (.x 0 0), .slice (U := U) .tree wg (.own (.x 0 1)), .slice (U := U) .tree wb (.own (.x 0 2))])], [(.x 0 0, LC.mk (U := U) .op wo 0)]⟩ : LSt U) Q
theorem vc106 (wo : List Op) (wg : List Tree) (wb : List Tree) (l : List Tree) (Q : AExit → LSt U → Prop) (h : LoopWp (awp cfg (know know106) (drawOk cfg (know know106)) Try.f106.ntmps lv106 (cd Try.f106 [1, 0, 0])) (head106_0 wo wg wb l 0 wg) (AExit.inBlock 0 Q)) :
    W106 wo wg wb l Q := by
  have e_ : (W106 wo wg wb l Q) = (type_of% h) := by kernel_rfl
  exact e_.mpr h
abbrev W106_l0 (wo : List Op) (wg : List Tree) (wb : List Tree) (l : List Tree) (x8 : Int) (mx0_1 : List Tree) (N0 : LSt U → Prop) (Q : AExit → LSt U → Prop) := awp cfg (know know106) (drawOk cfg (know know106)) Try.f106.ntmps lv106 (cd Try.f106 [1, 0, 0]) (head106_0 wo wg wb l x8 mx0_1) (AExit.then N0 (AExit.inBlock 0 Q))
theorem vc106_l0 (wo : List Op) (wg : List Tree) (wb : List Tree) (l : List Tree) (x8 : Int) (mx0_1 : List Tree) (N0 : LSt U → Prop) (Q : AExit → LSt U → Prop) (h : ((decide ((x8 : Int) < (l.length : Int))) = true → ((0 : Int) ≤ x8 ∧ x8 < (l.length : Int)) ∧ ((pre32 ((Tree.mk (Tree.kind (List.getD l (Int.toNat x8) Tree.nil)) (Tree.words (List.getD l (Int.toNat x8) Tree.nil)) (Tree.kids (List.getD l (Int.toNat x8) Tree.nil))), ())) ∧ ((mx0_1.length + ([(Tree.mk 0 ([]) ([]))]).length) * 56 ≤ 140737488355328) ∧ ((0 : Int) ≤ (mx0_1.length : Int) ∧ (mx0_1.length : Int) < ((mx0_1 ++ ([(Tree.mk 0 ([]) ([]))])).length : Int)) ∧ (mx0_1.length ≤ (Int.toNat (mx0_1.length : Int))) ∧ ((InR ((x8 : Int) + 1)) ∧ (N0 (head106_0 wo wg wb l ((x8 : Int) + 1) (List.set (mx0_1 ++ ([(Tree.mk 0 ([]) ([]))])) (Int.toNat (mx0_1.length : Int)) (Tree.mk (Tree.kind (normT (Tree.mk (Tree.kind (List.getD l (Int.toNat x8) Tree.nil)) (Tree.words (List.getD l (Int.toNat x8) Tree.nil)) (Tree.kids (List.getD l (Int.toNat x8) Tree.nil))))) (Tree.words (normT (Tree.mk (Tree.kind (List.getD l (Int.toNat x8) Tree.nil)) (Tree.words (List.getD l (Int.toNat x8) Tree.nil)) (Tree.kids (List.getD l (Int.toNat x8) Tree.nil))))) (Tree.kids (normT (Tree.mk (Tree.kind (List.getD l (Int.toNat x8) Tree.nil)) (Tree.words (List.getD l (Int.toNat x8) Tree.nil)) (Tree.kids (List.getD l (Int.toNat x8) Tree.nil)))))))))))) ∧ ((decide ((x8 : Int) < (l.length : Int))) = false → Q .normal (⟨[(0, .ptr (.x 0) 1), (6, .c (.slice (U := U) .tree l .unk)), (7, .c (.int .i64 (l.length : Int))), (8, .c (.int .i64 x8)), (9, .c (.bool (decide ((x8 : Int) < (l.length : Int)))))], [((.x 0), [.mref (.x 0 0), .slice (U := U) .tree mx0_1 (.own (.x 0 1)), .slice (U := U) .tree wb (.own (.x 0 2))])], [(.x 0 0, LC.mk (U := U) .op wo 0)]⟩ : LSt U))) :
    W106_l0 wo wg wb l x8 mx0_1 N0 Q := by
  have e_ : (W106_l0 wo wg wb l x8 mx0_1 N0 Q) = (type_of% h) := by kernel_rfl
  exact e_.mpr ⟨fun c_5 => ⟨(h.1 c_5).1, ⟨(h.1 c_5).2.1, (h.1 c_5).2.2.1, (h.1 c_5).2.2.2.1, (h.1 c_5).2.2.2.2.1, ⟨(h.1 c_5).2.2.2.2.2.1, (h.1 c_5).2.2.2.2.2.2⟩⟩⟩, fun c_5 => (h.2 c_5)⟩
def Body106 (wo : List Op) (wg : List Tree) (wb : List Tree) (l : List Tree)  : Prop := awp cfg (know (know106)) (drawOk cfg (know (know106))) Try.f106.ntmps lv106 (cd Try.f106 []) (entryL (args106.can ((wo, wg, wb, ()), l, ())) (args106.canX ((wo, wg, wb, ()), l, ())) (args106.canL ((wo, wg, wb, ()), l, ()))) (EndsQL cfg Try.f106.ntmps Try.f106.results.toList (res106 ((wo, wg, wb, ()), l, ())) (resX106 ((wo, wg, wb, ()), l, ())) (resL106 ((wo, wg, wb, ()), l, ())))
theorem make106 (c32 : Contract Try.prog cfg 32 spec32) (hb : ∀ (wo : List Op) (wg : List Tree) (wb : List Tree) (l : List Tree) (_ : Unit), pre106 ((wo, wg, wb, ()), l, ()) → Body106 wo wg wb l) : Contract Try.prog cfg 106 spec106 :=
  contractXL_flat (l := [(32, spec32)]) cfgOk rfl (⟨c32, trivial⟩) lv106 Try.func106 rfl rfl 2 (fun _ => rfl) (by decide) (fun ⟨⟨wo, wg, wb, _⟩, l, _⟩ => hb wo wg wb l ())
noncomputable def know1106 : List (FuncId × Fs U) := [(32, spec32)]
def lv1106 : Lives U := fun i => match i with
  | 0 => ([(0, []), (6, []), (7, []), (8, [])], [((.x 0), [.wr .op])])
  | 1 => ([(0, []), (6, []), (7, []), (8, []), (9, [])], [((.x 0), [.wr .op])])
  | 2 => ([(0, []), (5, []), (6, []), (7, []), (8, [])], [((.loc 5), []), ((.x 0), [.wr .op])])
  | 3 => ([(0, []), (6, []), (7, []), (8, [])], [((.x 0), [.wr .op])])
  | 4 => ([(0, []), (6, []), (7, []), (8, [])], [((.x 0), [.wr .op])])
  | _ => ([], [])
def head1106_0 (wo : List Op) (wg : List Tree) (wb : List Tree) (l : List Tree) (x8 : Int) (mx0_2 : List Tree) : LSt U := (⟨[(0, .ptr (.x 0) 2), (6, .c (.slice (U := U) .tree l .unk)), (7, .c (.int .i64 (l.length : Int))), (8, .c (.int .i64 x8))], [((.x 0), [.mref (.x 0 0), .slice (U := U) .tree wg (.own (.x 0 1)), .slice (U := U) .tree mx0_2 (.own (.x 0 2))])], [(.x 0 0, LC.mk (U := U) .op wo 0)]⟩ : LSt U)
abbrev W1106 (wo : List Op) (wg : List Tree) (wb : List Tree) (l : List Tree) (Q : AExit → LSt U → Prop) := awp cfg (know know1106) (drawOk cfg (know know1106)) Try.f106.ntmps lv1106 (cd Try.f106 []) (⟨[(0, .ptr (.x 0) 2), (1, .c (.slice (U := U) .tree l .unk))], [((.x 0), [.mref (.x 0 0), .slice (U := U) .tree wg (.own (.x 0 1)), .slice (U := U) .tree wb (.own (.x 0 2))])], [(.x 0 0, LC.mk (U := U) .op wo 0)]⟩ : LSt U) Q
theorem vc1106 (wo : List Op) (wg : List Tree) (wb : List Tree) (l : List Tree) (Q : AExit → LSt U → Prop) (h : LoopWp (awp cfg (know know1106) (drawOk cfg (know know1106)) Try.f106.ntmps lv1106 (cd Try.f106 [1, 0, 0])) (head1106_0 wo wg wb l 0 wb) (AExit.inBlock 0 Q)) :
    W1106 wo wg wb l Q := by
  have e_ : (W1106 wo wg wb l Q) = (type_of% h) := by kernel_rfl
  exact e_.mpr h
abbrev W1106_l0 (wo : List Op) (wg : List Tree) (wb : List Tree) (l : List Tree) (x8 : Int) (mx0_2 : List Tree) (N0 : LSt U → Prop) (Q : AExit → LSt U → Prop) := awp cfg (know know1106) (drawOk cfg (know know1106)) Try.f106.ntmps lv1106 (cd Try.f106 [1, 0, 0]) (head1106_0 wo wg wb l x8 mx0_2) (AExit.then N0 (AExit.inBlock 0 Q))
theorem vc1106_l0 (wo : List Op) (wg : List Tree) (wb : List Tree) (l : List Tree) (x8 : Int) (mx0_2 : List Tree) (N0 : LSt U → Prop) (Q : AExit → LSt U → Prop) (h : ((decide ((x8 : Int) < (l.length : Int))) = true → ((0 : Int) ≤ x8 ∧ x8 < (l.length : Int)) ∧ ((pre32 ((Tree.mk (Tree.kind (List.getD l (Int.toNat x8) Tree.nil)) (Tree.words (List.getD l (Int.toNat x8) Tree.nil)) (Tree.kids (List.getD l (Int.toNat x8) Tree.nil))), ())) ∧ ((mx0_2.length + ([(Tree.mk 0 ([]) ([]))]).length) * 56 ≤ 140737488355328) ∧ ((0 : Int) ≤ (mx0_2.length : Int) ∧ (mx0_2.length : Int) < ((mx0_2 ++ ([(Tree.mk 0 ([]) ([]))])).length : Int)) ∧ (mx0_2.length ≤ (Int.toNat (mx0_2.length : Int))) ∧ ((InR ((x8 : Int) + 1)) ∧ (N0 (head1106_0 wo wg wb l ((x8 : Int) + 1) (List.set (mx0_2 ++ ([(Tree.mk 0 ([]) ([]))])) (Int.toNat (mx0_2.length : Int)) (Tree.mk (Tree.kind (normT (Tree.mk (Tree.kind (List.getD l (Int.toNat x8) Tree.nil)) (Tree.words (List.getD l (Int.toNat x8) Tree.nil)) (Tree.kids (List.getD l (Int.toNat x8) Tree.nil))))) (Tree.words (normT (Tree.mk (Tree.kind (List.getD l (Int.toNat x8) Tree.nil)) (Tree.words (List.getD l (Int.toNat x8) Tree.nil)) (Tree.kids (List.getD l (Int.toNat x8) Tree.nil))))) (Tree.kids (normT (Tree.mk (Tree.kind (List.getD l (Int.toNat x8) Tree.nil)) (Tree.words (List.getD l (Int.toNat x8) Tree.nil)) (Tree.kids (List.getD l (Int.toNat x8) Tree.nil)))))))))))) ∧ ((decide ((x8 : Int) < (l.length : Int))) = false → Q .normal (⟨[(0, .ptr (.x 0) 2), (6, .c (.slice (U := U) .tree l .unk)), (7, .c (.int .i64 (l.length : Int))), (8, .c (.int .i64 x8)), (9, .c (.bool (decide ((x8 : Int) < (l.length : Int)))))], [((.x 0), [.mref (.x 0 0), .slice (U := U) .tree wg (.own (.x 0 1)), .slice (U := U) .tree mx0_2 (.own (.x 0 2))])], [(.x 0 0, LC.mk (U := U) .op wo 0)]⟩ : LSt U))) :
    W1106_l0 wo wg wb l x8 mx0_2 N0 Q := by
  have e_ : (W1106_l0 wo wg wb l x8 mx0_2 N0 Q) = (type_of% h) := by kernel_rfl
  exact e_.mpr ⟨fun c_6 => ⟨(h.1 c_6).1, ⟨(h.1 c_6).2.1, (h.1 c_6).2.2.1, (h.1 c_6).2.2.2.1, (h.1 c_6).2.2.2.2.1, ⟨(h.1 c_6).2.2.2.2.2.1, (h.1 c_6).2.2.2.2.2.2⟩⟩⟩, fun c_6 => (h.2 c_6)⟩
def Body1106 (wo : List Op) (wg : List Tree) (wb : List Tree) (l : List Tree)  : Prop := awp cfg (know (know1106)) (drawOk cfg (know (know1106))) Try.f106.ntmps lv1106 (cd Try.f106 []) (entryL (args1106.can ((wo, wg, wb, ()), l, ())) (args1106.canX ((wo, wg, wb, ()), l, ())) (args1106.canL ((wo, wg, wb, ()), l, ()))) (EndsQL cfg Try.f106.ntmps Try.f106.results.toList (res1106 ((wo, wg, wb, ()), l, ())) (resX1106 ((wo, wg, wb, ()), l, ())) (resL1106 ((wo, wg, wb, ()), l, ())))
theorem make1106 (c32 : Contract Try.prog cfg 32 spec32) (hb : ∀ (wo : List Op) (wg : List Tree) (wb : List Tree) (l : List Tree) (_ : Unit), pre1106 ((wo, wg, wb, ()), l, ()) → Body1106 wo wg wb l) : Contract Try.prog cfg 106 spec1106 :=
  contractXL_flat (l := [(32, spec32)]) cfgOk rfl (⟨c32, trivial⟩) lv1106 Try.func106 rfl rfl 2 (fun _ => rfl) (by decide) (fun ⟨⟨wo, wg, wb, _⟩, l, _⟩ => hb wo wg wb l ())
noncomputable def know1042 : List (FuncId × Fs U) := []
def lv1042 : Lives U := fun i => match i with
  | 0 => ([(0, []), (3, [])], [((.loc 3), [])])
  | 1 => ([(4, [])], [])
  | _ => ([], [])
abbrev W1042 (list : Int) (e : Edit) (Q : AExit → LSt U → Prop) := awp cfg (know know1042) (drawOk cfg (know know1042)) Try.f42.ntmps lv1042 (cd Try.f42 []) (⟨[(0, .c (.int .i64 list)), (1, .agg [.int .i64 (Edit.kind e), .int .i64 (Tree.kind (Edit.old e)), .slice (U := U) .u64 (Tree.words (Edit.old e)) .unk, .slice (U := U) .tree (Tree.kids (Edit.old e)) .unk, .int .i64 (Tree.kind (Edit.new e)), .slice (U := U) .u64 (Tree.words (Edit.new e)) .unk, .slice (U := U) .tree (Tree.kids (Edit.new e)) .unk, .slice (U := U) .wedit (Edit.words e) .unk, .slice (U := U) .kid (Edit.kids e) .unk, .int .i64 (Edit.list e), .slice (U := U) .op (Edit.ops e) .unk])], [], []⟩ : LSt U) Q
theorem vc1042 (list : Int) (e : Edit) (Q : AExit → LSt U → Prop) (h : (((!(((Edit.kind e) : Int) == 0)) && (bif ((list : Int) == 9) then (((Edit.kind e) : Int) == 2) else false)) = true → InR ((((Edit.words e).length : Int) : Int) + ((Edit.kids e).length : Int))) ∧ (Q .ret (⟨[(4, .c (.bool (bif (((Edit.kind e) : Int) == 0) then true else (bif (bif ((list : Int) == 9) then (((Edit.kind e) : Int) == 2) else false) then ((((((Edit.words e).length : Int) : Int) + ((Edit.kids e).length : Int)) : Int) == 0) else false))))], [], []⟩ : LSt U))) :
    W1042 list e Q := by
  have e_ : (W1042 list e Q) = (let zz1 := (!((Edit.kind e) == 0)); let zz0 := (bif ((list : Int) == 9) then ((Edit.kind e) == 2) else false); ((TrG22c (zz1 = true)) ∧ (TrG22c (zz1 = true)) ∧ (TrG22c ((zz1 && ((list : Int) == 9)) = true)) ∧ (TrG22c ((zz1 && ((list : Int) == 9)) = true)) ∧ (zz1 = true → (True → zz1 = true)) ∧ (zz1 = true → (((list : Int) == 9) = true → (zz1 && ((list : Int) == 9)) = true)) ∧ (TrG22c (zz1 = true)) ∧ (TrG22c ((zz1 && zz0) = true)) ∧ (TrG22c ((zz1 && zz0) = true)) ∧ (TrG22c ((zz1 && zz0) = true)) ∧ (TrG22c ((zz1 && zz0) = true)) ∧ (TrG22c ((zz1 && zz0) = true)) ∧ (TrG22c ((zz1 && zz0) = true)) ∧ ((zz1 && zz0) = true → InR (((Edit.words e).length : Int) + ((Edit.kids e).length : Int))) ∧ (TrG22c ((zz1 && zz0) = true)) ∧ (zz1 = true → (True → zz1 = true)) ∧ (zz1 = true → (zz0 = true → (zz1 && zz0) = true)) ∧ ((((Edit.kind e) == 0) = false → zz1 = true)) ∧ (Q .ret (⟨[(4, .c (.bool (bif ((Edit.kind e) == 0) then true else (bif zz0 then (((((Edit.words e).length : Int) + ((Edit.kids e).length : Int)) : Int) == 0) else false))))], [], []⟩ : LSt U)))) := by kernel_rfl
  exact e_.mpr ⟨id, id, id, id, (by generalize (((Edit.kind e) : Int) == 0) = b0; revert b0; decide), (by generalize (((Edit.kind e) : Int) == 0) = b0; generalize ((list : Int) == 9) = b1; revert b0 b1; decide), id, id, id, id, id, id, id, h.1, id, (by generalize (((Edit.kind e) : Int) == 0) = b0; revert b0; decide), (by generalize (((Edit.kind e) : Int) == 2) = b0; generalize (((Edit.kind e) : Int) == 0) = b1; generalize ((list : Int) == 9) = b2; revert b0 b1 b2; decide), (by generalize (((Edit.kind e) : Int) == 0) = b0; revert b0; decide), h.2⟩
def Body1042 (list : Int) (e : Edit)  : Prop := awp cfg (know (know1042)) (drawOk cfg (know (know1042))) Try.f42.ntmps lv1042 (cd Try.f42 []) (entry (args1042.can (list, e, ())) []) (EndsQ cfg Try.f42.ntmps Try.f42.results.toList (res1042 (list, e, ())) [])
theorem make1042 (hb : ∀ (list : Int) (e : Edit) (_ : Unit), pre1042 (list, e, ()) → Body1042 list e) : Contract Try.prog cfg 42 spec1042 :=
  contract_flat (l := []) cfgOk rfl (trivial) lv1042 Try.func42 rfl rfl 2 (fun _ => rfl) (by decide) (fun ⟨list, e, _⟩ => hb list e ())
end Go.AM.Ytlahjnelghpmeaa

namespace Go.AM.Ytlahjnelghpmeaa
open Go.AM Go.Proofs
theorem set_last {α : Type} (l : List α) (z x : α) : (l ++ [z]).set (Int.toNat (l.length : Int)) x = l ++ [x] := by
  rw [Int.toNat_natCast, List.set_append_right _ _ (Nat.le_refl _)]
  simp
theorem keepO_at : ∀ (F : List Op) (n : Int), keepO F n = if F.length ≠ 0 ∧ (F.getD (F.length - 1) Op.nil).kind = 0 then F.set (F.length - 1) ⟨(F.getD (F.length - 1) Op.nil).kind, (F.getD (F.length - 1) Op.nil).n + n, (F.getD (F.length - 1) Op.nil).l, (F.getD (F.length - 1) Op.nil).e⟩ else F ++ [⟨0, n, [], Edit.nil⟩]
  | [], n => by simp [keepO]
  | [o], n => by simp [keepO]
  | o :: p :: r, n => by
    have ih := keepO_at (p :: r) n
    have e : (o :: p :: r).length - 1 = ((p :: r).length - 1) + 1 := by simp
    rw [keepO, ih, e]
    simp only [List.getD_cons_succ, List.set_cons_succ]
    by_cases h : (p :: r).length ≠ 0 ∧ ((p :: r).getD ((p :: r).length - 1) Op.nil).kind = 0
    · rw [if_pos h, if_pos ⟨by simp, h.2⟩]
    · have h' : ¬ ((p :: r).getD ((p :: r).length - 1) Op.nil).kind = 0 := fun e => h ⟨by simp, e⟩
      rw [if_neg h, if_neg (fun e => h' e.2)]
      rfl
theorem flush_len (s : Wst) : (flushW s).out.length ≤ s.out.length + 2 := by
  simp only [flushW, flushO]
  split <;> split <;> simp
theorem flush_mem (s : Wst) : ∀ o ∈ (flushW s).out, o ∈ s.out ∨ o.n = 0 := by
  intro o ho
  simp only [flushW, flushO, List.mem_append] at ho
  rcases ho with h | h | h
  · exact .inl h
  · split at h
    · cases h
    · simp only [List.mem_singleton] at h; subst h; exact .inr rfl
  · split at h
    · cases h
    · simp only [List.mem_singleton] at h; subst h; exact .inr rfl
theorem c107 : Contract Try.prog cfg 107 spec107 := by
  refine make107 ?_
  intro wo wg wb _ hp
  simp only [pre107] at hp
  refine vc107 wo wg wb _ ?_
  rintro y1 hy1 y2 hy2
  have hy : y1 = Edit.nil := hy1
  subst hy
  rw [set_last] at hy2
  subst hy2
  (simp only [vcS])
  refine ⟨fun h1 => ⟨by simp; omega, by simp; omega, by omega, fun h2 => ⟨by simp; omega, by simp; omega, by omega, ?_⟩, fun h2 => ?_⟩, fun h1 => ⟨fun h2 => ⟨by simp; omega, by simp; omega, by omega, ?_⟩, fun h2 => ?_⟩⟩
  · rw [set_last]
    have e : flushW ⟨wo, wg, wb⟩ = ⟨wo ++ [⟨1, 0, wg, Edit.nil⟩] ++ [⟨2, 0, wb, Edit.nil⟩], [], []⟩ := by
      simp only [flushW, flushO]; rw [if_neg (by omega), if_neg (by omega)]; simp
    simp only [res107, resX107, resL107, e]
    (repeat' (first | exact trivial | exact rfl | apply And.intro))
  · have e : flushW ⟨wo, wg, wb⟩ = ⟨wo ++ [⟨1, 0, wg, Edit.nil⟩], [], []⟩ := by
      simp only [flushW, flushO]; rw [if_neg (by omega), if_pos (by omega)]; simp
    simp only [res107, resX107, resL107, e]
    (repeat' (first | exact trivial | exact rfl | apply And.intro))
  · rw [set_last]
    have e : flushW ⟨wo, wg, wb⟩ = ⟨wo ++ [⟨2, 0, wb, Edit.nil⟩], [], []⟩ := by
      simp only [flushW, flushO]; rw [if_pos (by omega), if_neg (by omega)]; simp
    simp only [res107, resX107, resL107, e]
    (repeat' (first | exact trivial | exact rfl | apply And.intro))
  · have e : flushW ⟨wo, wg, wb⟩ = ⟨wo, [], []⟩ := by
      simp only [flushW, flushO]; rw [if_pos (by omega), if_pos (by omega)]; simp
    simp only [res107, resX107, resL107, e]
    (repeat' (first | exact trivial | exact rfl | apply And.intro))
theorem c105 : Contract Try.prog cfg 105 spec105 := by
  refine make105 c107 ?_
  intro wo wg wb n _ hp
  simp only [pre105] at hp
  obtain ⟨p1, p2, p3, p4, p5, p6⟩ := hp
  have hfl := flush_len ⟨wo, wg, wb⟩
  have hfm := flush_mem ⟨wo, wg, wb⟩
  have hg : (flushW ⟨wo, wg, wb⟩).gone = [] := rfl
  have hb : (flushW ⟨wo, wg, wb⟩).brought = [] := rfl
  have hk := keepO_at (flushW ⟨wo, wg, wb⟩).out n
  have hkw : keepW ⟨wo, wg, wb⟩ n = ⟨keepO (flushW ⟨wo, wg, wb⟩).out n, [], []⟩ := rfl
  refine vc105 wo wg wb n _ ?_
  simp only [hg, hb, res105, resX105, resL105, hkw]
  generalize (flushW ⟨wo, wg, wb⟩).out = F at *
  simp only at hfl hfm
  rintro y1 hy1 y2 hy2 y3 hy3 y4 hy4
  have hy : y1 = Edit.nil := hy1
  subst hy
  have e2 : y2 = F.length - 1 := by omega
  subst e2
  rw [← hy3, ← hy4] at hk
  (simp only [vcS])
  refine ⟨by simp only [pre107]; exact ⟨p1, p2, p3⟩, by unfold InR; omega, fun h => ⟨h, by omega⟩, fun h => ?_, fun h => ?_⟩
  · have hy3n : 0 ≤ y3.n ∧ y3.n ≤ 100000000000000 := by
      have hm : y3 ∈ F := by rw [hy3]; exact mem_getD (by omega) _
      rcases hfm y3 hm with h1 | h1
      · exact p4 y3 h1
      · omega
    rw [if_pos ⟨by omega, h.2⟩] at hk
    rw [hk]
    refine ⟨by omega, by unfold InR; omega, by omega, by omega, ?_⟩
    (repeat' (first | exact trivial | exact rfl | apply And.intro))
  · rw [if_neg (by omega)] at hk
    rw [hk, set_last]
    refine ⟨by simp; omega, by simp; omega, by omega, ?_⟩
    (repeat' (first | exact trivial | exact rfl | apply And.intro))
theorem c106 : Contract Try.prog cfg 106 spec106 := by
  refine make106 c32 ?_
  intro wo wg wb l _ hp
  simp only [pre106] at hp
  obtain ⟨p1, p2, p3, p4⟩ := hp
  have hl := massK_len l
  refine vc106 _ _ _ _ _ ?_
  refine loop_rule (ι := Int × List Tree) (fun s => head106_0 wo wg wb l s.1 s.2) (fun s => 0 ≤ s.1 ∧ s.1 ≤ l.length ∧ s.2.length = wg.length + s.1 ∧ s.2 ++ normsT (l.drop s.1.toNat) = wg ++ normsT l) (fun s => ((l.length : Int) - s.1).toNat) (0, wg) rfl ⟨by simp, by simp, by simp, by simp⟩ ?_
  rintro ⟨i, out⟩ ⟨h1, h2, h3, h4⟩
  dsimp only at h1 h2 h3 h4
  refine vc106_l0 _ _ _ _ _ _ _ _ ?_
  (simp only [vcS])
  (simp only [Tree.eta, Edit.eta, Tree.kind_mk, Tree.words_mk, Tree.kids_mk])
  refine ⟨fun hi => ?_, fun hi => ?_⟩
  · have hm := massK_mem (mem_getD (l := l) (i := i.toNat) (by omega) Tree.nil)
    rw [dropI h1 hi Tree.nil] at h4
    simp only [normsT, List.map_cons] at h4
    rw [set_last]
    refine ⟨⟨h1, hi⟩, by simp only [pre32]; omega, by simp; omega, by simp; omega, by omega, by unfold InR; omega, (i + 1, out ++ [normT (l.getD i.toNat Tree.nil)]), rfl, ⟨by dsimp only; omega, by dsimp only; omega, by simp; omega, ?_⟩, by dsimp only; omega⟩
    simp only [List.append_assoc, List.cons_append, List.nil_append]
    exact h4
  · rw [List.drop_of_length_le (by omega)] at h4
    simp only [normsT, List.map_nil, List.append_nil] at h4
    rw [h4]
    (repeat' (first | exact trivial | exact rfl | apply And.intro))
theorem c1106 : Contract Try.prog cfg 106 spec1106 := by
  refine make1106 c32 ?_
  intro wo wg wb l _ hp
  simp only [pre1106] at hp
  obtain ⟨p1, p2, p3, p4⟩ := hp
  have hl := massK_len l
  refine vc1106 _ _ _ _ _ ?_
  refine loop_rule (ι := Int × List Tree) (fun s => head1106_0 wo wg wb l s.1 s.2) (fun s => 0 ≤ s.1 ∧ s.1 ≤ l.length ∧ s.2.length = wb.length + s.1 ∧ s.2 ++ normsT (l.drop s.1.toNat) = wb ++ normsT l) (fun s => ((l.length : Int) - s.1).toNat) (0, wb) rfl ⟨by simp, by simp, by simp, by simp⟩ ?_
  rintro ⟨i, out⟩ ⟨h1, h2, h3, h4⟩
  dsimp only at h1 h2 h3 h4
  refine vc1106_l0 _ _ _ _ _ _ _ _ ?_
  (simp only [vcS])
  (simp only [Tree.eta, Edit.eta, Tree.kind_mk, Tree.words_mk, Tree.kids_mk])
  refine ⟨fun hi => ?_, fun hi => ?_⟩
  · have hm := massK_mem (mem_getD (l := l) (i := i.toNat) (by omega) Tree.nil)
    rw [dropI h1 hi Tree.nil] at h4
    simp only [normsT, List.map_cons] at h4
    rw [set_last]
    refine ⟨⟨h1, hi⟩, by simp only [pre32]; omega, by simp; omega, by simp; omega, by omega, by unfold InR; omega, (i + 1, out ++ [normT (l.getD i.toNat Tree.nil)]), rfl, ⟨by dsimp only; omega, by dsimp only; omega, by simp; omega, ?_⟩, by dsimp only; omega⟩
    simp only [List.append_assoc, List.cons_append, List.nil_append]
    exact h4
  · rw [List.drop_of_length_le (by omega)] at h4
    simp only [normsT, List.map_nil, List.append_nil] at h4
    rw [h4]
    (repeat' (first | exact trivial | exact rfl | apply And.intro))
theorem c1042 : Contract Try.prog cfg 42 spec1042 := by
  refine make1042 ?_
  intro list e _ hp
  simp only [pre1042] at hp
  refine vc1042 _ _ _ ?_
  refine ⟨fun _ => by unfold InR; dsimp only; omega, ends_bool rfl ?_⟩
  rw [Bool.eq_iff_iff]
  simp only [idleE]
  (simp only [vcS])
  omega
noncomputable def spec2106 : Fs U := fsOr spec106 spec1106
theorem c2106 : Contract Try.prog cfg 106 spec2106 := contract_or c106 c1106
end Go.AM.Ytlahjnelghpmeaa

namespace Go.AM.Ytlahjnelghpmeaa
open Go.AM Go.Proofs
noncomputable section
def args40 : ArgL (Edit × Unit) := (.cons (aEl .edit) .nil)
def pre40 (a : Edit × Unit) : Prop := massE a.1 ≤ 1000000 ∧ ∃ d, rightE a.1 d = true
def mu40 (a : Edit × Unit) : Nat := 2 * massE a.1
noncomputable def res40 (a : Edit × Unit) : V U := .agg [.int .i64 (Edit.kind (nrmE a.1)), .int .i64 (Tree.kind (Edit.old (nrmE a.1))), .slice (U := U) .u64 (Tree.words (Edit.old (nrmE a.1))) .unk, .slice (U := U) .tree (Tree.kids (Edit.old (nrmE a.1))) .unk, .int .i64 (Tree.kind (Edit.new (nrmE a.1))), .slice (U := U) .u64 (Tree.words (Edit.new (nrmE a.1))) .unk, .slice (U := U) .tree (Tree.kids (Edit.new (nrmE a.1))) .unk, .slice (U := U) .wedit (Edit.words (nrmE a.1)) .unk, .slice (U := U) .kid (Edit.kids (nrmE a.1)) .unk, .int .i64 (Edit.list (nrmE a.1)), .slice (U := U) .op (Edit.ops (nrmE a.1)) .unk]
noncomputable def spec40 : Fs U := fs args40 (fun a => [pre40 a]) res40
def args76 : ArgL (Int × List Op × Unit) := (.cons (aInt .i64) (.cons (aSl .op) .nil))
def pre76 (a : Int × List Op × Unit) : Prop := massOs a.2.1 ≤ 1000000 ∧ ∀ o ∈ a.2.1, ∃ d, rightOp a.1 o d = true
def mu76 (a : Int × List Op × Unit) : Nat := 2 * massOs a.2.1 + 1
noncomputable def res76 (a : Int × List Op × Unit) : V U := .c (.slice (U := U) .op ((flushW (nrmOs a.1 a.2.1 (Wst.mk [] [] []))).out) .unk)
noncomputable def spec76 : Fs U := fs args76 (fun a => [pre76 a]) res76
noncomputable def know40 (N : Nat) : List (FuncId × Fs U) := (40, fs args40 (fun a => [pre40 a, mu40 a < N]) res40) :: (76, fs args76 (fun a => [pre76 a, mu76 a < N]) res76) :: [(32, spec32), (42, spec1042), (105, spec105), (107, spec107), (106, spec2106)]
def lv40 : Lives U := fun i => match i with
  | 0 => ([(1, []), (2, [])], [((.loc 1), []), ((.loc 2), [])])
  | 1 => ([(1, []), (2, []), (3, [])], [((.loc 1), []), ((.loc 2), []), ((.loc 3), [])])
  | 2 => ([(1, []), (2, []), (3, []), (12, [])], [((.loc 1), []), ((.loc 2), []), ((.loc 3), [])])
  | 3 => ([(1, []), (2, []), (3, []), (12, []), (13, [])], [((.loc 1), []), ((.loc 2), []), ((.loc 3), [])])
  | 4 => ([(2, []), (3, [])], [((.loc 2), []), ((.loc 3), [])])
  | 5 => ([(1, []), (2, []), (3, []), (12, []), (23, [])], [((.loc 1), []), ((.loc 2), []), ((.loc 3), [])])
  | 6 => ([(1, []), (2, []), (3, [])], [((.loc 1), []), ((.loc 2), []), ((.loc 3), [])])
  | 7 => ([(2, []), (3, []), (32, []), (33, []), (34, [])], [((.loc 2), []), ((.loc 3), [.any, .any, .any, .any, .any, .any, .any, .any, .own .kid])])
  | 8 => ([(2, []), (3, []), (32, []), (33, []), (34, []), (35, [])], [((.loc 2), []), ((.loc 3), [])])
  | 9 => ([(2, []), (3, []), (5, []), (32, []), (33, []), (34, [])], [((.loc 2), []), ((.loc 3), []), ((.loc 5), [])])
  | 10 => ([(2, []), (3, []), (32, []), (33, []), (34, [])], [((.loc 2), []), ((.loc 3), [])])
  | 11 => ([(2, []), (3, []), (32, []), (33, []), (34, [])], [((.loc 2), []), ((.loc 3), [.any, .any, .any, .any, .any, .any, .any, .any, .own .kid])])
  | 12 => ([(1, []), (2, []), (3, []), (50, [])], [((.loc 1), []), ((.loc 2), []), ((.loc 3), [])])
  | 13 => ([(2, []), (3, [])], [((.loc 2), []), ((.loc 3), [])])
  | 14 => ([(2, [])], [((.loc 2), [])])
  | _ => ([], [])
def head40_0 (e : Edit) (x34 : Int) (ml3_8 : List Kid) : LSt U := (⟨[(2, .ptr (.loc 2) 0), (3, .ptr (.loc 3) 0), (32, .c (.slice (U := U) .kid (Edit.kids e) .unk)), (33, .c (.int .i64 ((Edit.kids e).length : Int))), (34, .c (.int .i64 x34))], [((.loc 2), [.int .i64 0, .int .i64 0, .nils, .nils, .int .i64 0, .nils, .nils, .nils, .nils, .int .i64 0, .nils]), ((.loc 3), [.int .i64 (Edit.kind e), .int .i64 0, .nils, .nils, .int .i64 0, .nils, .nils, .slice (U := U) .wedit (([] : List WEdit) ++ (Edit.words e)) (.own (.l 3 7)), .slice (U := U) .kid ml3_8 (.own (.l 3 8)), .int .i64 (Edit.list e), .nils])], []⟩ : LSt U)
abbrev W40 (N : Nat) (e : Edit) (Q : AExit → LSt U → Prop) := awp cfg (know (know40 N)) (drawOk cfg (know (know40 N))) Try.f40.ntmps lv40 (cd Try.f40 []) (⟨[(0, .agg [.int .i64 (Edit.kind e), .int .i64 (Tree.kind (Edit.old e)), .slice (U := U) .u64 (Tree.words (Edit.old e)) .unk, .slice (U := U) .tree (Tree.kids (Edit.old e)) .unk, .int .i64 (Tree.kind (Edit.new e)), .slice (U := U) .u64 (Tree.words (Edit.new e)) .unk, .slice (U := U) .tree (Tree.kids (Edit.new e)) .unk, .slice (U := U) .wedit (Edit.words e) .unk, .slice (U := U) .kid (Edit.kids e) .unk, .int .i64 (Edit.list e), .slice (U := U) .op (Edit.ops e) .unk])], [], []⟩ : LSt U) Q
abbrev a40_G22d (N : Nat) := awp cfg (know (know40 N)) (drawOk cfg (know (know40 N))) Try.f40.ntmps lv40
abbrev s40_G22d (N : Nat) := seqK cfg (know (know40 N)) (drawOk cfg (know (know40 N))) Try.f40.ntmps lv40
theorem vc40 (N : Nat) (e : Edit) (Q : AExit → LSt U → Prop) (h : ((((Edit.kind e) : Int) == 1) = true → (pre32 ((Tree.mk (Tree.kind (Edit.old e)) (Tree.words (Edit.old e)) (Tree.kids (Edit.old e))), ())) ∧ (pre32 ((Tree.mk (Tree.kind (Edit.new e)) (Tree.words (Edit.new e)) (Tree.kids (Edit.new e))), ())) ∧ (Q .ret (⟨[(2, .ptr (.loc 2) 0)], [((.loc 2), [.int .i64 (Edit.kind e), .int .i64 (Tree.kind (normT (Tree.mk (Tree.kind (Edit.old e)) (Tree.words (Edit.old e)) (Tree.kids (Edit.old e))))), .slice (U := U) .u64 (Tree.words (normT (Tree.mk (Tree.kind (Edit.old e)) (Tree.words (Edit.old e)) (Tree.kids (Edit.old e))))) .unk, .slice (U := U) .tree (Tree.kids (normT (Tree.mk (Tree.kind (Edit.old e)) (Tree.words (Edit.old e)) (Tree.kids (Edit.old e))))) .unk, .int .i64 (Tree.kind (normT (Tree.mk (Tree.kind (Edit.new e)) (Tree.words (Edit.new e)) (Tree.kids (Edit.new e))))), .slice (U := U) .u64 (Tree.words (normT (Tree.mk (Tree.kind (Edit.new e)) (Tree.words (Edit.new e)) (Tree.kids (Edit.new e))))) .unk, .slice (U := U) .tree (Tree.kids (normT (Tree.mk (Tree.kind (Edit.new e)) (Tree.words (Edit.new e)) (Tree.kids (Edit.new e))))) .unk, .nils, .nils, .int .i64 (Edit.list e), .nils])], []⟩ : LSt U))) ∧ ((((Edit.kind e) : Int) == 1) = false → ((((Edit.kind e) : Int) == 2) = true → ((([] : List WEdit).length + (Edit.words e).length) * 32 ≤ 140737488355328) ∧ (LoopWp (awp cfg (know (know40 N)) (drawOk cfg (know (know40 N))) Try.f40.ntmps lv40 (cd Try.f40 [1, 1, 0, 1, 0, 1, 1, 1, 0, 1, 1, 0, 0])) (head40_0 e 0 ([])) (AExit.inBlock 1 (AExit.inBlock 0 (seqK cfg (know (know40 N)) (drawOk cfg (know (know40 N))) Try.f40.ntmps lv40 (cd Try.f40 [1, 1, 1]) Q))))) ∧ ((((Edit.kind e) : Int) == 2) = false → ((((Edit.kind e) : Int) == 3) = true → (pre76 ((Edit.list e), (Edit.ops e), ())) ∧ (mu76 ((Edit.list e), (Edit.ops e), ()) < N) ∧ (Q .ret (⟨[(2, .ptr (.loc 2) 0)], [((.loc 2), [.int .i64 (Edit.kind e), .int .i64 0, .nils, .nils, .int .i64 0, .nils, .nils, .nils, .nils, .int .i64 (Edit.list e), .slice (U := U) .op ((flushW (nrmOs (Edit.list e) (Edit.ops e) (Wst.mk [] [] []))).out) .unk])], []⟩ : LSt U))) ∧ ((((Edit.kind e) : Int) == 3) = false → Q .ret (⟨[(2, .ptr (.loc 2) 0)], [((.loc 2), [.int .i64 (Edit.kind e), .int .i64 0, .nils, .nils, .int .i64 0, .nils, .nils, .nils, .nils, .int .i64 (Edit.list e), .nils])], []⟩ : LSt U))))) :
    W40 N e Q := by
  have e_ : (W40 N e Q) = ((((((((Edit.kind e) == 1) = true → (pre32 ((Tree.mk (Tree.kind (Edit.old e)) (Tree.words (Edit.old e)) (Tree.kids (Edit.old e))), ())) ∧ (pre32 ((Tree.mk (Tree.kind (Edit.new e)) (Tree.words (Edit.new e)) (Tree.kids (Edit.new e))), ())) ∧ ((Q .ret (⟨[(2, .ptr (.loc 2) 0)], [((.loc 2), [.int .i64 (Edit.kind e), .int .i64 (Tree.kind (normT (Tree.mk (Tree.kind (Edit.old e)) (Tree.words (Edit.old e)) (Tree.kids (Edit.old e))))), .slice (U := U) .u64 (Tree.words (normT (Tree.mk (Tree.kind (Edit.old e)) (Tree.words (Edit.old e)) (Tree.kids (Edit.old e))))) .unk, .slice (U := U) .tree (Tree.kids (normT (Tree.mk (Tree.kind (Edit.old e)) (Tree.words (Edit.old e)) (Tree.kids (Edit.old e))))) .unk, .int .i64 (Tree.kind (normT (Tree.mk (Tree.kind (Edit.new e)) (Tree.words (Edit.new e)) (Tree.kids (Edit.new e))))), .slice (U := U) .u64 (Tree.words (normT (Tree.mk (Tree.kind (Edit.new e)) (Tree.words (Edit.new e)) (Tree.kids (Edit.new e))))) .unk, .slice (U := U) .tree (Tree.kids (normT (Tree.mk (Tree.kind (Edit.new e)) (Tree.words (Edit.new e)) (Tree.kids (Edit.new e))))) .unk, .nils, .nils, .int .i64 (Edit.list e), .nils])], []⟩ : LSt U)))) ∧ (((Edit.kind e) == 1) = false → ((((Edit.kind e) == 2) = true → ((([] : List WEdit).length + (Edit.words e).length) * 32 ≤ 140737488355328) ∧ ((LoopWp (a40_G22d N (cd Try.f40 [1, 1, 0, 1, 0, 1, 1, 1, 0, 1, 1, 0, 0])) (head40_0 e 0 ([])) (AExit.inBlock 1 (AExit.inBlock 0 (s40_G22d N (cd Try.f40 [1, 1, 1]) Q)))))) ∧ (((Edit.kind e) == 2) = false → ((((Edit.kind e) == 3) = true → (pre76 ((Edit.list e), (Edit.ops e), ())) ∧ (mu76 ((Edit.list e), (Edit.ops e), ()) < N) ∧ ((Q .ret (⟨[(2, .ptr (.loc 2) 0)], [((.loc 2), [.int .i64 (Edit.kind e), .int .i64 0, .nils, .nils, .int .i64 0, .nils, .nils, .nils, .nils, .int .i64 (Edit.list e), .slice (U := U) .op ((flushW (nrmOs (Edit.list e) (Edit.ops e) (Wst.mk [] [] []))).out) .unk])], []⟩ : LSt U)))) ∧ (((Edit.kind e) == 3) = false → (Q .ret (⟨[(2, .ptr (.loc 2) 0)], [((.loc 2), [.int .i64 (Edit.kind e), .int .i64 0, .nils, .nils, .int .i64 0, .nils, .nils, .nils, .nils, .int .i64 (Edit.list e), .nils])], []⟩ : LSt U)))))))))))) := by kernel_rfl
  exact e_.mpr ⟨fun c_1 => ⟨(h.1 c_1).1, (h.1 c_1).2.1, (h.1 c_1).2.2⟩, fun c_1 => ⟨fun c_2 => ⟨((h.2 c_1).1 c_2).1, ((h.2 c_1).1 c_2).2⟩, fun c_2 => ⟨fun c_3 => ⟨(((h.2 c_1).2 c_2).1 c_3).1, (((h.2 c_1).2 c_2).1 c_3).2.1, (((h.2 c_1).2 c_2).1 c_3).2.2⟩, fun c_3 => (((h.2 c_1).2 c_2).2 c_3)⟩⟩⟩
abbrev W40_l0 (N : Nat) (e : Edit) (x34 : Int) (ml3_8 : List Kid) (N0 : LSt U → Prop) (Q : AExit → LSt U → Prop) := awp cfg (know (know40 N)) (drawOk cfg (know (know40 N))) Try.f40.ntmps lv40 (cd Try.f40 [1, 1, 0, 1, 0, 1, 1, 1, 0, 1, 1, 0, 0]) (head40_0 e x34 ml3_8) (AExit.then N0 (AExit.inBlock 1 (AExit.inBlock 0 (seqK cfg (know (know40 N)) (drawOk cfg (know (know40 N))) Try.f40.ntmps lv40 (cd Try.f40 [1, 1, 1]) Q))))
theorem vc40_l0 (N : Nat) (e : Edit) (x34 : Int) (ml3_8 : List Kid) (N0 : LSt U → Prop) (Q : AExit → LSt U → Prop) (h : ∀ y_1, y_1 = (List.getD (Edit.kids e) (Int.toNat x34) (KidOf.mk 0 Edit.nil)) → ∀ y_2, y_2 = ((KidOf.e y_1)) → ∀ y_3, y_3 = ((nrmE y_2)) → ((decide ((x34 : Int) < ((Edit.kids e).length : Int))) = true → ((0 : Int) ≤ x34 ∧ x34 < ((Edit.kids e).length : Int)) ∧ ((pre40 (y_2, ())) ∧ (mu40 (y_2, ()) < N) ∧ ((ml3_8.length + ([(KidOf.mk (KidOf.at_ y_1) y_3 : Kid)]).length) * 208 ≤ 140737488355328) ∧ ((InR ((x34 : Int) + 1)) ∧ (N0 (head40_0 e ((x34 : Int) + 1) (ml3_8 ++ ([(KidOf.mk (KidOf.at_ y_1) y_3 : Kid)]))))))) ∧ ((decide ((x34 : Int) < ((Edit.kids e).length : Int))) = false → Q .ret (⟨[(2, .ptr (.loc 2) 0)], [((.loc 2), [.int .i64 (Edit.kind e), .int .i64 0, .nils, .nils, .int .i64 0, .nils, .nils, .slice (U := U) .wedit (([] : List WEdit) ++ (Edit.words e)) (.own (.l 2 7)), .slice (U := U) .kid ml3_8 (.own (.l 2 8)), .int .i64 (Edit.list e), .nils])], []⟩ : LSt U))) :
    W40_l0 N e x34 ml3_8 N0 Q := by
  have e_ : (W40_l0 N e x34 ml3_8 N0 Q) = (let y_1 := (List.getD (Edit.kids e) (Int.toNat x34) (KidOf.mk 0 Edit.nil)); let y_2 := (reEdit (KidOf.e y_1)); let y_3 := (reEdit (nrmE y_2)); (((decide ((x34 : Int) < ((Edit.kids e).length : Int))) = true → ((0 : Int) ≤ x34 ∧ x34 < ((Edit.kids e).length : Int)) ∧ ((pre40 (y_2, ())) ∧ (mu40 (y_2, ()) < N) ∧ ((ml3_8.length + ([(KidOf.mk (KidOf.at_ y_1) y_3 : Kid)]).length) * 208 ≤ 140737488355328) ∧ ((InR ((x34 : Int) + 1)) ∧ (N0 (head40_0 e ((x34 : Int) + 1) (ml3_8 ++ ([(KidOf.mk (KidOf.at_ y_1) y_3 : Kid)]))))))) ∧ ((decide ((x34 : Int) < ((Edit.kids e).length : Int))) = false → (Q .ret (⟨[(2, .ptr (.loc 2) 0)], [((.loc 2), [.int .i64 (Edit.kind e), .int .i64 0, .nils, .nils, .int .i64 0, .nils, .nils, .slice (U := U) .wedit (([] : List WEdit) ++ (Edit.words e)) (.own (.l 2 7)), .slice (U := U) .kid ml3_8 (.own (.l 2 8)), .int .i64 (Edit.list e), .nils])], []⟩ : LSt U))))) := by kernel_rfl
  exact e_.mpr (by intro y_1 y_2 y_3; have hh := h y_1 rfl y_2 (reEdit_eq _) y_3 (reEdit_eq _); exact ⟨fun c_4 => ⟨(hh.1 c_4).1, ⟨(hh.1 c_4).2.1, (hh.1 c_4).2.2.1, (hh.1 c_4).2.2.2.1, ⟨(hh.1 c_4).2.2.2.2.1, (hh.1 c_4).2.2.2.2.2⟩⟩⟩, fun c_4 => (hh.2 c_4)⟩)
def Body40 (N : Nat) (e : Edit)  : Prop := awp cfg (know (know40 N)) (drawOk cfg (know (know40 N))) Try.f40.ntmps lv40 (cd Try.f40 []) (entry (args40.can (e, ())) []) (EndsQ cfg Try.f40.ntmps Try.f40.results.toList (res40 (e, ())) [])
abbrev HB40 : Prop := ∀ (N : Nat) (e : Edit) (_ : Unit), pre40 (e, ()) → mu40 (e, ()) < N + 1 → Body40 N e
noncomputable def know76 (N : Nat) : List (FuncId × Fs U) := (40, fs args40 (fun a => [pre40 a, mu40 a < N]) res40) :: (76, fs args76 (fun a => [pre76 a, mu76 a < N]) res76) :: [(32, spec32), (42, spec1042), (105, spec105), (107, spec107), (106, spec2106)]
def lv76 : Lives U := fun i => match i with
  | 0 => ([(0, []), (1, [])], [])
  | 1 => ([(0, []), (1, []), (5, [])], [((.loc 10), [.wr .op])])
  | 2 => ([(0, []), (5, []), (11, []), (12, []), (13, [])], [((.loc 10), [.wr .op, .own .tree, .own .tree])])
  | 3 => ([(0, []), (5, []), (11, []), (12, []), (13, []), (14, [])], [((.loc 10), [.wr .op])])
  | 4 => ([(0, []), (5, []), (7, []), (11, []), (12, []), (13, [])], [((.loc 7), []), ((.loc 10), [.wr .op])])
  | 5 => ([(0, []), (5, []), (7, []), (11, []), (12, []), (13, []), (18, [])], [((.loc 7), []), ((.loc 10), [.wr .op])])
  | 6 => ([(0, []), (5, []), (7, []), (11, []), (12, []), (13, []), (18, []), (19, [])], [((.loc 7), []), ((.loc 10), [.wr .op])])
  | 7 => ([(0, []), (5, []), (11, []), (12, []), (13, [])], [((.loc 10), [.wr .op])])
  | 8 => ([(0, []), (5, []), (7, []), (11, []), (12, []), (13, []), (18, []), (25, [])], [((.loc 7), []), ((.loc 10), [.wr .op])])
  | 9 => ([(0, []), (5, []), (11, []), (12, []), (13, [])], [((.loc 10), [.wr .op])])
  | 10 => ([(0, []), (5, []), (7, []), (11, []), (12, []), (13, []), (18, []), (33, [])], [((.loc 7), []), ((.loc 10), [.wr .op])])
  | 11 => ([(0, []), (5, []), (11, []), (12, []), (13, [])], [((.loc 10), [.wr .op])])
  | 12 => ([(0, []), (5, []), (7, []), (11, []), (12, []), (13, []), (41, [])], [((.loc 7), []), ((.loc 10), [.wr .op])])
  | 13 => ([(0, []), (5, []), (8, []), (11, []), (12, []), (13, [])], [((.loc 8), []), ((.loc 10), [.wr .op])])
  | 14 => ([(0, []), (5, []), (8, []), (11, []), (12, []), (13, []), (48, [])], [((.loc 8), []), ((.loc 10), [.wr .op])])
  | 15 => ([(0, []), (5, []), (11, []), (12, []), (13, [])], [((.loc 10), [.wr .op])])
  | 16 => ([(0, []), (5, []), (8, []), (11, []), (12, []), (13, [])], [((.loc 8), []), ((.loc 10), [.wr .op])])
  | 17 => ([(0, []), (5, []), (11, []), (12, []), (13, [])], [((.loc 10), [.wr .op])])
  | 18 => ([(0, []), (5, []), (11, []), (12, []), (13, [])], [((.loc 10), [.wr .op, .own .tree, .own .tree])])
  | 19 => ([(5, [])], [((.loc 10), [.wr .op])])
  | 20 => ([(4, [])], [])
  | _ => ([], [])
def head76_0 (list : Int) (l : List Op) (x13 : Int) (rl_10_0 : List Op) (ml10_1 : List Tree) (ml10_2 : List Tree) : LSt U := (⟨[(0, .c (.int .i64 list)), (5, .ptr (.loc 10) 0), (11, .c (.slice (U := U) .op l .unk)), (12, .c (.int .i64 (l.length : Int))), (13, .c (.int .i64 x13))], [((.loc 10), [.mref (.l 10 0), .slice (U := U) .tree ml10_1 (.own (.l 10 1)), .slice (U := U) .tree ml10_2 (.own (.l 10 2))])], [(.l 10 0, LC.mk (U := U) .op rl_10_0 0)]⟩ : LSt U)
abbrev W76 (N : Nat) (list : Int) (l : List Op) (Q : AExit → LSt U → Prop) := awp cfg (know (know76 N)) (drawOk cfg (know (know76 N))) Try.f76.ntmps lv76 (cd Try.f76 []) (⟨[(0, .c (.int .i64 list)), (1, .c (.slice (U := U) .op l .unk))], [], []⟩ : LSt U) Q
abbrev a76_G22d (N : Nat) := awp cfg (know (know76 N)) (drawOk cfg (know (know76 N))) Try.f76.ntmps lv76
abbrev s76_G22d (N : Nat) := seqK cfg (know (know76 N)) (drawOk cfg (know (know76 N))) Try.f76.ntmps lv76
theorem vc76 (N : Nat) (list : Int) (l : List Op) (Q : AExit → LSt U → Prop) (h : LoopWp (awp cfg (know (know76 N)) (drawOk cfg (know (know76 N))) Try.f76.ntmps lv76 (cd Try.f76 [1, 1, 0, 1, 0, 0])) (head76_0 list l 0 ([]) ([]) ([])) (AExit.inBlock 0 (seqK cfg (know (know76 N)) (drawOk cfg (know (know76 N))) Try.f76.ntmps lv76 (cd Try.f76 [1, 1, 1]) Q))) :
    W76 N list l Q := by
  have e_ : (W76 N list l Q) = ((((LoopWp (a76_G22d N (cd Try.f76 [1, 1, 0, 1, 0, 0])) (head76_0 list l 0 ([]) ([]) ([])) (AExit.inBlock 0 (s76_G22d N (cd Try.f76 [1, 1, 1]) Q)))))) := by kernel_rfl
  exact e_.mpr h
abbrev W76_l0 (N : Nat) (list : Int) (l : List Op) (x13 : Int) (rl_10_0 : List Op) (ml10_1 : List Tree) (ml10_2 : List Tree) (N0 : LSt U → Prop) (Q : AExit → LSt U → Prop) := awp cfg (know (know76 N)) (drawOk cfg (know (know76 N))) Try.f76.ntmps lv76 (cd Try.f76 [1, 1, 0, 1, 0, 0]) (head76_0 list l x13 rl_10_0 ml10_1 ml10_2) (AExit.then N0 (AExit.inBlock 0 (seqK cfg (know (know76 N)) (drawOk cfg (know (know76 N))) Try.f76.ntmps lv76 (cd Try.f76 [1, 1, 1]) Q)))
theorem vc76_l0 (N : Nat) (list : Int) (l : List Op) (x13 : Int) (rl_10_0 : List Op) (ml10_1 : List Tree) (ml10_2 : List Tree) (N0 : LSt U → Prop) (Q : AExit → LSt U → Prop) (h : ∀ y_1, y_1 = (List.getD l (Int.toNat x13) Op.nil) → ∀ y_2, y_2 = (Edit.mk 0 (Tree.mk 0 ([]) ([])) (Tree.mk 0 ([]) ([])) ([]) ([]) 0 ([])) → ∀ y_3, y_3 = (Int.toNat (((flushW (Wst.mk rl_10_0 ml10_1 ml10_2)).out).length : Int)) → ∀ y_4, y_4 = ((OpOf.e y_1)) → ∀ y_5, y_5 = ((nrmE y_4)) → ((decide ((x13 : Int) < (l.length : Int))) = true → ((0 : Int) ≤ x13 ∧ x13 < (l.length : Int)) ∧ (((((OpOf.kind y_1) : Int) == 0) = true → (pre105 ((rl_10_0, ml10_1, ml10_2, ()), (OpOf.n y_1), ())) ∧ ((InR ((x13 : Int) + 1)) ∧ (N0 (head76_0 list l ((x13 : Int) + 1) ((keepW (Wst.mk rl_10_0 ml10_1 ml10_2) (OpOf.n y_1)).out) ((keepW (Wst.mk rl_10_0 ml10_1 ml10_2) (OpOf.n y_1)).gone) ((keepW (Wst.mk rl_10_0 ml10_1 ml10_2) (OpOf.n y_1)).brought))))) ∧ ((((OpOf.kind y_1) : Int) == 0) = false → ((((OpOf.kind y_1) : Int) == 1) = true → (pre106 ((rl_10_0, ml10_1, ml10_2, ()), (OpOf.l y_1), ())) ∧ ((InR ((x13 : Int) + 1)) ∧ (N0 (head76_0 list l ((x13 : Int) + 1) ((Wst.mk rl_10_0 (ml10_1 ++ normsT (OpOf.l y_1)) ml10_2).out) ((Wst.mk rl_10_0 (ml10_1 ++ normsT (OpOf.l y_1)) ml10_2).gone) ((Wst.mk rl_10_0 (ml10_1 ++ normsT (OpOf.l y_1)) ml10_2).brought))))) ∧ ((((OpOf.kind y_1) : Int) == 1) = false → ((((OpOf.kind y_1) : Int) == 2) = true → (pre1106 ((rl_10_0, ml10_1, ml10_2, ()), (OpOf.l y_1), ())) ∧ ((InR ((x13 : Int) + 1)) ∧ (N0 (head76_0 list l ((x13 : Int) + 1) ((Wst.mk rl_10_0 ml10_1 (ml10_2 ++ normsT (OpOf.l y_1))).out) ((Wst.mk rl_10_0 ml10_1 (ml10_2 ++ normsT (OpOf.l y_1))).gone) ((Wst.mk rl_10_0 ml10_1 (ml10_2 ++ normsT (OpOf.l y_1))).brought))))) ∧ ((((OpOf.kind y_1) : Int) == 2) = false → ((((OpOf.kind y_1) : Int) == 3) = true → (pre40 (y_4, ())) ∧ (mu40 (y_4, ()) < N) ∧ ((pre1042 (list, y_5, ())) ∧ (((idleE list y_5) = true → (pre105 ((rl_10_0, ml10_1, ml10_2, ()), 1, ())) ∧ ((InR ((x13 : Int) + 1)) ∧ (N0 (head76_0 list l ((x13 : Int) + 1) ((keepW (Wst.mk rl_10_0 ml10_1 ml10_2) 1).out) ((keepW (Wst.mk rl_10_0 ml10_1 ml10_2) 1).gone) ((keepW (Wst.mk rl_10_0 ml10_1 ml10_2) 1).brought))))) ∧ ((idleE list y_5) = false → (pre107 ((rl_10_0, ml10_1, ml10_2, ()), ())) ∧ (((((flushW (Wst.mk rl_10_0 ml10_1 ml10_2)).out).length + ([(OpOf.mk 0 0 ([]) y_2 : Op)]).length) * 240 ≤ 140737488355328) ∧ ((0 : Int) ≤ (((flushW (Wst.mk rl_10_0 ml10_1 ml10_2)).out).length : Int) ∧ (((flushW (Wst.mk rl_10_0 ml10_1 ml10_2)).out).length : Int) < ((((flushW (Wst.mk rl_10_0 ml10_1 ml10_2)).out) ++ ([(OpOf.mk 0 0 ([]) y_2 : Op)])).length : Int)) ∧ ((0 : Nat) ≤ y_3) ∧ ((InR ((x13 : Int) + 1)) ∧ (N0 (head76_0 list l ((x13 : Int) + 1) (List.set (((flushW (Wst.mk rl_10_0 ml10_1 ml10_2)).out) ++ ([(OpOf.mk 0 0 ([]) y_2 : Op)])) y_3 (OpOf.mk 3 0 ([]) y_5 : Op)) ((flushW (Wst.mk rl_10_0 ml10_1 ml10_2)).gone) ((flushW (Wst.mk rl_10_0 ml10_1 ml10_2)).brought))))))))) ∧ ((((OpOf.kind y_1) : Int) == 3) = false → (InR ((x13 : Int) + 1)) ∧ (N0 (head76_0 list l ((x13 : Int) + 1) rl_10_0 ml10_1 ml10_2)))))))) ∧ ((decide ((x13 : Int) < (l.length : Int))) = false → (pre107 ((rl_10_0, ml10_1, ml10_2, ()), ())) ∧ (Q .ret (⟨[(4, .c (.slice (U := U) .op ((flushW (Wst.mk rl_10_0 ml10_1 ml10_2)).out) (.own (.e 4 0))))], [], []⟩ : LSt U)))) :
    W76_l0 N list l x13 rl_10_0 ml10_1 ml10_2 N0 Q := by
  have e_ : (W76_l0 N list l x13 rl_10_0 ml10_1 ml10_2 N0 Q) = (let y_1 := (List.getD l (Int.toNat x13) Op.nil); let y_2 := (Edit.mk 0 (Tree.mk 0 ([]) ([])) (Tree.mk 0 ([]) ([])) ([]) ([]) 0 ([])); let y_3 := (Int.toNat (((flushW (Wst.mk rl_10_0 ml10_1 ml10_2)).out).length : Int)); let y_4 := (reEdit (OpOf.e y_1)); let y_5 := (reEdit (nrmE y_4)); (((decide ((x13 : Int) < (l.length : Int))) = true → ((0 : Int) ≤ x13 ∧ x13 < (l.length : Int)) ∧ ((((((OpOf.kind y_1) == 0) = true → (pre105 ((rl_10_0, ml10_1, ml10_2, ()), (OpOf.n y_1), ())) ∧ ((InR ((x13 : Int) + 1)) ∧ (N0 (head76_0 list l ((x13 : Int) + 1) ((keepW (Wst.mk rl_10_0 ml10_1 ml10_2) (OpOf.n y_1)).out) ((keepW (Wst.mk rl_10_0 ml10_1 ml10_2) (OpOf.n y_1)).gone) ((keepW (Wst.mk rl_10_0 ml10_1 ml10_2) (OpOf.n y_1)).brought))))) ∧ (((OpOf.kind y_1) == 0) = false → ((((OpOf.kind y_1) == 1) = true → (pre106 ((rl_10_0, ml10_1, ml10_2, ()), (OpOf.l y_1), ())) ∧ ((InR ((x13 : Int) + 1)) ∧ (N0 (head76_0 list l ((x13 : Int) + 1) ((Wst.mk rl_10_0 (ml10_1 ++ normsT (OpOf.l y_1)) ml10_2).out) ((Wst.mk rl_10_0 (ml10_1 ++ normsT (OpOf.l y_1)) ml10_2).gone) ((Wst.mk rl_10_0 (ml10_1 ++ normsT (OpOf.l y_1)) ml10_2).brought))))) ∧ (((OpOf.kind y_1) == 1) = false → ((((OpOf.kind y_1) == 2) = true → (pre1106 ((rl_10_0, ml10_1, ml10_2, ()), (OpOf.l y_1), ())) ∧ ((InR ((x13 : Int) + 1)) ∧ (N0 (head76_0 list l ((x13 : Int) + 1) ((Wst.mk rl_10_0 ml10_1 (ml10_2 ++ normsT (OpOf.l y_1))).out) ((Wst.mk rl_10_0 ml10_1 (ml10_2 ++ normsT (OpOf.l y_1))).gone) ((Wst.mk rl_10_0 ml10_1 (ml10_2 ++ normsT (OpOf.l y_1))).brought))))) ∧ (((OpOf.kind y_1) == 2) = false → ((((OpOf.kind y_1) == 3) = true → (pre40 (y_4, ())) ∧ (mu40 (y_4, ()) < N) ∧ ((pre1042 (list, y_5, ())) ∧ (((idleE list y_5) = true → (pre105 ((rl_10_0, ml10_1, ml10_2, ()), 1, ())) ∧ ((InR ((x13 : Int) + 1)) ∧ (N0 (head76_0 list l ((x13 : Int) + 1) ((keepW (Wst.mk rl_10_0 ml10_1 ml10_2) 1).out) ((keepW (Wst.mk rl_10_0 ml10_1 ml10_2) 1).gone) ((keepW (Wst.mk rl_10_0 ml10_1 ml10_2) 1).brought))))) ∧ ((idleE list y_5) = false → (pre107 ((rl_10_0, ml10_1, ml10_2, ()), ())) ∧ (((((flushW (Wst.mk rl_10_0 ml10_1 ml10_2)).out).length + ([(OpOf.mk 0 0 ([]) y_2 : Op)]).length) * 240 ≤ 140737488355328) ∧ ((0 : Int) ≤ (((flushW (Wst.mk rl_10_0 ml10_1 ml10_2)).out).length : Int) ∧ (((flushW (Wst.mk rl_10_0 ml10_1 ml10_2)).out).length : Int) < ((((flushW (Wst.mk rl_10_0 ml10_1 ml10_2)).out) ++ ([(OpOf.mk 0 0 ([]) y_2 : Op)])).length : Int)) ∧ ((0 : Nat) ≤ y_3) ∧ ((InR ((x13 : Int) + 1)) ∧ (N0 (head76_0 list l ((x13 : Int) + 1) (List.set (((flushW (Wst.mk rl_10_0 ml10_1 ml10_2)).out) ++ ([(OpOf.mk 0 0 ([]) y_2 : Op)])) y_3 (OpOf.mk 3 0 ([]) y_5 : Op)) ((flushW (Wst.mk rl_10_0 ml10_1 ml10_2)).gone) ((flushW (Wst.mk rl_10_0 ml10_1 ml10_2)).brought))))))))) ∧ (((OpOf.kind y_1) == 3) = false → (InR ((x13 : Int) + 1)) ∧ (N0 (head76_0 list l ((x13 : Int) + 1) rl_10_0 ml10_1 ml10_2))))))))))))) ∧ ((decide ((x13 : Int) < (l.length : Int))) = false → (pre107 ((rl_10_0, ml10_1, ml10_2, ()), ())) ∧ ((Q .ret (⟨[(4, .c (.slice (U := U) .op ((flushW (Wst.mk rl_10_0 ml10_1 ml10_2)).out) (.own (.e 4 0))))], [], []⟩ : LSt U)))))) := by kernel_rfl
  exact e_.mpr (by intro y_1 y_2 y_3 y_4 y_5; have hh := h y_1 rfl y_2 rfl y_3 rfl y_4 (reEdit_eq _) y_5 (reEdit_eq _); exact ⟨fun c_5 => ⟨(hh.1 c_5).1, ⟨fun c_6 => ⟨((hh.1 c_5).2.1 c_6).1, ⟨((hh.1 c_5).2.1 c_6).2.1, ((hh.1 c_5).2.1 c_6).2.2⟩⟩, fun c_6 => ⟨fun c_7 => ⟨(((hh.1 c_5).2.2 c_6).1 c_7).1, ⟨(((hh.1 c_5).2.2 c_6).1 c_7).2.1, (((hh.1 c_5).2.2 c_6).1 c_7).2.2⟩⟩, fun c_7 => ⟨fun c_8 => ⟨((((hh.1 c_5).2.2 c_6).2 c_7).1 c_8).1, ⟨((((hh.1 c_5).2.2 c_6).2 c_7).1 c_8).2.1, ((((hh.1 c_5).2.2 c_6).2 c_7).1 c_8).2.2⟩⟩, fun c_8 => ⟨fun c_9 => ⟨(((((hh.1 c_5).2.2 c_6).2 c_7).2 c_8).1 c_9).1, (((((hh.1 c_5).2.2 c_6).2 c_7).2 c_8).1 c_9).2.1, ⟨(((((hh.1 c_5).2.2 c_6).2 c_7).2 c_8).1 c_9).2.2.1, ⟨fun c_10 => ⟨((((((hh.1 c_5).2.2 c_6).2 c_7).2 c_8).1 c_9).2.2.2.1 c_10).1, ⟨((((((hh.1 c_5).2.2 c_6).2 c_7).2 c_8).1 c_9).2.2.2.1 c_10).2.1, ((((((hh.1 c_5).2.2 c_6).2 c_7).2 c_8).1 c_9).2.2.2.1 c_10).2.2⟩⟩, fun c_10 => ⟨((((((hh.1 c_5).2.2 c_6).2 c_7).2 c_8).1 c_9).2.2.2.2 c_10).1, ⟨((((((hh.1 c_5).2.2 c_6).2 c_7).2 c_8).1 c_9).2.2.2.2 c_10).2.1, ((((((hh.1 c_5).2.2 c_6).2 c_7).2 c_8).1 c_9).2.2.2.2 c_10).2.2.1, ((((((hh.1 c_5).2.2 c_6).2 c_7).2 c_8).1 c_9).2.2.2.2 c_10).2.2.2.1, ⟨((((((hh.1 c_5).2.2 c_6).2 c_7).2 c_8).1 c_9).2.2.2.2 c_10).2.2.2.2.1, ((((((hh.1 c_5).2.2 c_6).2 c_7).2 c_8).1 c_9).2.2.2.2 c_10).2.2.2.2.2⟩⟩⟩⟩⟩⟩, fun c_9 => ⟨(((((hh.1 c_5).2.2 c_6).2 c_7).2 c_8).2 c_9).1, (((((hh.1 c_5).2.2 c_6).2 c_7).2 c_8).2 c_9).2⟩⟩⟩⟩⟩⟩, fun c_5 => ⟨(hh.2 c_5).1, (hh.2 c_5).2⟩⟩)
def Body76 (N : Nat) (list : Int) (l : List Op)  : Prop := awp cfg (know (know76 N)) (drawOk cfg (know (know76 N))) Try.f76.ntmps lv76 (cd Try.f76 []) (entry (args76.can (list, l, ())) []) (EndsQ cfg Try.f76.ntmps Try.f76.results.toList (res76 (list, l, ())) [])
abbrev HB76 : Prop := ∀ (N : Nat) (list : Int) (l : List Op) (_ : Unit), pre76 (list, l, ()) → mu76 (list, l, ()) < N + 1 → Body76 N list l
theorem make40_76 (c32 : Contract Try.prog cfg 32 spec32) (c1042 : Contract Try.prog cfg 42 spec1042) (c105 : Contract Try.prog cfg 105 spec105) (c107 : Contract Try.prog cfg 107 spec107) (c2106 : Contract Try.prog cfg 106 spec2106) (ha : HB40) (hb : HB76) : Contract Try.prog cfg 40 spec40 ∧ Contract Try.prog cfg 76 spec76 :=
  contract_mut2 (μA := mu40) (μB := mu76) (l := [(32, spec32), (42, spec1042), (105, spec105), (107, spec107), (106, spec2106)]) cfgOk rfl (⟨c32, c1042, c105, c107, c2106, trivial⟩) lv40 lv76 Try.func40 Try.func76 rfl rfl rfl rfl 1 2 (fun _ => rfl) (fun _ => rfl) (by decide) (by decide) (fun N ⟨e, _⟩ => ha N e ()) (fun N ⟨list, l, _⟩ => hb N list l ())
end
end Go.AM.Ytlahjnelghpmeaa
