/- The abstract machine: calls, by what is known of the function. -/
import Derived.Test.YtlahjnelghpmeaaAmG
set_option linter.unusedSimpArgs false
set_option linter.unusedVariables false
namespace Go.AM
variable {U : Uni} {P : Program} {cfg : Cfg U} {B : Base} {st : FSt U} {g : Gh} {a : Act} {w : World}

def alive : Tok → Bool := fun _ => false

def liveX (X : List (List (C U))) : Name → Bool
  | .x k => (X[k]?).isSome
  | .loc _ => false

/-- How a call begins. -/
structure Entry (cfg : Cfg U) (w : World) (g : Gh) (vs : List Value) (args : List (V U)) (X : List (List (C U))) : Prop where
  inv : Inv g.m g.tag w
  tags : ∀ a t, g.tag a = some t → (∃ t', t = .outer t') ∨ (∃ k, t = .obj (.x k)) ∨ ∃ u, t = .tok u
  len : vs.length = args.length
  args : ∀ (j : Nat) v x, vs[j]? = some v → args[j]? = some x → RelV cfg g alive (liveX X) v x
  x : ∀ (k : Nat) cs, X[k]? = some cs → ∀ (j : Nat) c, cs[j]? = some c → ∃ v, w.cell? ((g.ad (.x k)).add j) = some v ∧ g.tag ((g.ad (.x k)).add j) = some (.obj (.x k)) ∧ RelC cfg g alive v c

/-- How it (repeat' (first | exact trivial | exact rfl | refine And.intro ?_ ?_)). -/
structure Leave (cfg : Cfg U) (w : World) (g : Gh) (w' : World) (g' : Gh) (v : Value) (r : V U) (X : List (List (C U))) : Prop where
  inv : Inv g'.m g'.tag w'
  fr : Fr ⟨w, g.m, g.tag, fun k => g.ad (.x k)⟩ g' w'
  tags : ∀ a t, g'.tag a = some t → (∃ t', t = .outer t') ∨ (∃ k, k < X.length ∧ t = .obj (.x k)) ∨ ∃ u, t = .tok u
  ad : ∀ k, g'.ad (.x k) = g.ad (.x k)
  val : RelV cfg g' alive (fun _ => false) v r
  x : ∀ (k : Nat) cs, X[k]? = some cs → ∀ (j : Nat) c, cs[j]? = some c → ∃ v, w'.cell? ((g'.ad (.x k)).add j) = some v ∧ g'.tag ((g'.ad (.x k)).add j) = some (.obj (.x k)) ∧ RelC cfg g' alive v c

/-- The function is what is known of it. -/
def Contract (P : Program) (cfg : Cfg U) (f : FuncId) (s : Fs U) : Prop :=
  (∃ fn, P.funcs[f]? = some fn ∧ fn.body.isSome = true ∧ (fn.name == "runtime.NumGoroutine") = false) ∧
  ∀ args X ps r X', s.fn args X = some (ps, r, X') → All ps → X'.length ≤ X.length → ∀ w g vs, Entry cfg w g vs args X →
    Calls P f vs.toArray w fun e w' => ∃ v g', e = .returned v ∧ Leave cfg w g w' g' v r X'

theorem SimC.tl {m : Addr → Option Value} {v : Value} {T : U.Ty} {l : List (U.El T)} {tl : Tail} (tl' : Tail) (h : SimC cfg m v (.slice T l tl)) : SimC cfg m v (.slice T l tl') := by
  cases h with
  | snil => exact .snil T tl'
  | slice _ _ _ b len cap vs hl hc hm hs => exact .slice T l tl' b len cap vs hl hc hm hs

/-- More tokens are named. -/
def Ext (s s' : List (Tok × Tok)) : Prop := ∀ t t' : Tok, newTok s t = some t' → newTok s' t = some t'

theorem Ext.refl (s : List (Tok × Tok)) : Ext s s := fun _ _ h => h
theorem Ext.trans {a b c : List (Tok × Tok)} (h : Ext a b) (k : Ext b c) : Ext a c := fun t t' ht => k _ _ (h _ _ ht)

theorem newTok_mem : ∀ {s : List (Tok × Tok)} {t t' : Tok}, newTok s t = some t' → (s.map (·.1)).contains t = true
  | (x, y) :: r, t, t', h => by
    simp only [newTok] at h
    split at h
    · rename_i e; subst e; simp
    · have := newTok_mem h
      simp only [List.map_cons, List.contains_cons, this, Bool.or_true]

/-- The ghost state as the callee has it. -/
def Gh.callee (g : Gh) (nx : Name → Option Nat) (nt : Tok → Option Tok) (ax : Nat → Addr) : Gh :=
  { m := g.m
    tag := fun c => match g.tag c with
      | some (.obj nm) => match nx nm with
        | some k => some (.obj (.x k))
        | none => some (.outer (.obj nm))
      | some (.tok t) => match nt t with
        | some t' => some (.tok t')
        | none => some (.outer (.tok t))
      | some (.outer t) => some (.outer (.outer t))
      | none => none
    ad := fun nm => match nm with
      | .x k => ax k
      | .loc s => g.ad (.loc s) }

section pass
variable {nx : Name → Option Nat} {ax : Nat → Addr}

/-- Tokens are named anew. -/
structure Ren (g : Gh) (s : List (Tok × Tok)) (g2 : Gh) : Prop where
  m : g2.m = g.m
  tok : ∀ c t t', g.tag c = some (.tok t) → newTok s t = some t' → g2.tag c = some (.tok t')

theorem Gh.callee_ren (s : List (Tok × Tok)) : Ren g s (g.callee nx (newTok s) ax) :=
  ⟨rfl, fun c t t' h1 h2 => by simp only [Gh.callee, h1, h2]⟩

theorem passC1_gen {mine : Tok → Bool} {nm : Tok} {c : C U} {seen : List (Tok × Tok)} (hmine : ∀ t, mine t = true → st.dead t = false) :
    Ext seen (passC1 mine nm c seen).2 ∧ ∀ s', Ext (passC1 mine nm c seen).2 s' → ∀ g2, Ren g s' g2 → ∀ v, RelC cfg g st.dead v c → RelC cfg g2 alive v (passC1 mine nm c seen).1 := by
  unfold passC1
  split
  · rename_i T l t
    split
    · rename_i hc
      simp only [Bool.and_eq_true, Option.isNone_iff_eq_none] at hc
      refine ⟨fun u u' hu => ?_, fun s' hs g2 hg v hr => ⟨by rw [hg.m]; exact hr.1.tl _, ?_⟩⟩
      · simp only [newTok]
        split
        · rename_i e; subst e; rw [hc.2] at hu; cases hu
        · exact hu
      · intro _ b len cap hv j h1 h2
        have h3 := hr.2 (hmine t hc.1) b len cap hv j h1 h2
        have h4 : newTok s' t = some nm := hs t nm (by simp [newTok])
        exact hg.tok _ _ _ h3 h4
    · exact ⟨.refl _, fun s' _ g2 hg v hr => ⟨by rw [hg.m]; exact hr.1.tl _, trivial⟩⟩
  · rename_i hno
    refine ⟨.refl _, fun s' _ g2 hg v hr => ⟨by rw [hg.m]; exact hr.1, ?_⟩⟩
    have h2 := hr.2
    cases c with
    | slice T l tl =>
      cases tl with
      | unk => trivial
      | full => exact h2
      | own t => exact absurd rfl (hno T l t)
    | _ => trivial

theorem passC_gen {mine : Tok → Bool} {nm : Nat → Tok} (hmine : ∀ t, mine t = true → st.dead t = false) : ∀ (cs : List (C U)) (j : Nat) (seen : List (Tok × Tok)),
    Ext seen (passC mine nm j cs seen).2 ∧ (passC mine nm j cs seen).1.length = cs.length ∧
      ∀ s', Ext (passC mine nm j cs seen).2 s' → ∀ g2, Ren g s' g2 → ∀ (i : Nat) v c c', cs[i]? = some c → (passC mine nm j cs seen).1[i]? = some c' → RelC cfg g st.dead v c → RelC cfg g2 alive v c'
  | [], j, seen => ⟨.refl _, rfl, fun s' _ g2 _ i v c c' hc => by simp at hc⟩
  | c :: cs, j, seen => by
    obtain ⟨h1, h2⟩ := passC1_gen (cfg := cfg) (g := g) (nm := nm j) (c := c) (seen := seen) hmine
    obtain ⟨h3, h4, h5⟩ := passC_gen (mine := mine) (nm := nm) hmine cs (j + 1) (passC1 mine (nm j) c seen).2
    refine ⟨h1.trans h3, by simp [passC, h4], fun s' hs g2 hg i v c0 c' hc hc' hr => ?_⟩
    cases i with
    | zero =>
      simp [passC] at hc hc'
      subst hc hc'
      exact h2 s' (h3.trans hs) g2 hg v hr
    | succ i =>
      simp [passC] at hc hc'
      exact h5 s' hs g2 hg i v c0 c' hc hc' hr

theorem passC1_ok {mine : Tok → Bool} {nm : Tok} {c : C U} {seen : List (Tok × Tok)} (hmine : ∀ t, mine t = true → st.dead t = false) :
    Ext seen (passC1 mine nm c seen).2 ∧ ∀ s', Ext (passC1 mine nm c seen).2 s' → ∀ v, RelC cfg g st.dead v c → RelC cfg (g.callee nx (newTok s') ax) alive v (passC1 mine nm c seen).1 :=
  let ⟨h1, h2⟩ := passC1_gen (cfg := cfg) (g := g) (nm := nm) (c := c) (seen := seen) hmine
  ⟨h1, fun s' hs v hr => h2 s' hs _ (Gh.callee_ren s') v hr⟩

theorem passC_ok {mine : Tok → Bool} {nm : Nat → Tok} (hmine : ∀ t, mine t = true → st.dead t = false) (cs : List (C U)) (j : Nat) (seen : List (Tok × Tok)) :
    Ext seen (passC mine nm j cs seen).2 ∧ (passC mine nm j cs seen).1.length = cs.length ∧
      ∀ s', Ext (passC mine nm j cs seen).2 s' → ∀ (i : Nat) v c c', cs[i]? = some c → (passC mine nm j cs seen).1[i]? = some c' → RelC cfg g st.dead v c → RelC cfg (g.callee nx (newTok s') ax) alive v c' :=
  let ⟨h1, h2, h3⟩ := passC_gen (cfg := cfg) (g := g) (mine := mine) (nm := nm) hmine cs j seen
  ⟨h1, h2, fun s' hs i v c c' hc hc' hr => h3 s' hs _ (Gh.callee_ren s') i v c c' hc hc' hr⟩

theorem passV_ok {mine : Tok → Bool} {nm : Nat → Tok} {live lx : Name → Bool} (hmine : ∀ t, mine t = true → st.dead t = false) {x x' : V U} {seen seen' : List (Tok × Tok)} (he : passV mine nm x seen = some (x', seen')) :
    Ext seen seen' ∧ ∀ s', Ext seen' s' → ∀ v, RelV cfg g st.dead live v x → RelV cfg (g.callee nx (newTok s') ax) alive lx v x' := by
  unfold passV at he
  split at he
  · rename_i c
    simp only [Option.some.injEq, Prod.mk.injEq] at he
    obtain ⟨rfl, rfl⟩ := he
    obtain ⟨h1, h2⟩ := passC1_ok (cfg := cfg) (g := g) (nx := nx) (ax := ax) (nm := nm 0) (c := c) (seen := seen) hmine
    exact ⟨h1, fun s' hs v hr => h2 s' hs v hr⟩
  · rename_i cs
    simp only [Option.some.injEq, Prod.mk.injEq] at he
    obtain ⟨rfl, rfl⟩ := he
    obtain ⟨h3, h4, h5⟩ := passC_ok (cfg := cfg) (g := g) (nx := nx) (ax := ax) (mine := mine) (nm := nm) hmine cs 0 seen
    refine ⟨h3, fun s' hs v hr => ?_⟩
    obtain ⟨vs, rfl, hl, hh⟩ := hr
    refine ⟨vs, rfl, by rw [h4]; exact hl, fun j u c hu hc => ?_⟩
    have hj : j < cs.length := by have := (List.getElem?_eq_some_iff.1 hc).1; omega
    exact h5 s' hs j u _ c (List.getElem?_eq_getElem hj) hc (hh j u _ hu (List.getElem?_eq_getElem hj))
  · rename_i f
    simp only [Option.some.injEq, Prod.mk.injEq] at he
    obtain ⟨rfl, rfl⟩ := he
    exact ⟨.refl _, fun s' _ v hr => hr⟩
  · cases he

/-- The place of a name among the objects handed on. -/
def nameAt : List (Name × List (C U)) → Nat → Name → Option Nat
  | [], _, _ => none
  | (a, _) :: r, k, nm => if a = nm then some k else nameAt r (k + 1) nm

theorem hasName_append : ∀ (os : List (Name × List (C U))) (x : Name × List (C U)) (nm : Name), hasName (os ++ [x]) nm = (hasName os nm || decide (x.1 = nm))
  | [], (a, cs), nm => by simp [hasName]
  | (b, cs) :: os, x, nm => by
    simp only [List.cons_append, hasName]
    split
    · simp
    · rw [hasName_append os x nm]

/-- Names that differ. -/
def Apart (os : List (Name × List (C U))) : Prop := ∀ (i j : Nat) x y, os[i]? = some x → os[j]? = some y → x.1 = y.1 → i = j

theorem hasName_mem : ∀ {os : List (Name × List (C U))} {nm : Name} {i : Nat} {x : Name × List (C U)}, os[i]? = some x → x.1 = nm → hasName os nm = true
  | (b, cs) :: os, nm, 0, x, h, e => by simp at h; subst h; simp [hasName]; exact .inl e
  | (b, cs) :: os, nm, i + 1, x, h, e => by
    simp at h
    simp only [hasName, hasName_mem h e]
    split <;> rfl

theorem nameAt_spec : ∀ {os : List (Name × List (C U))} {k : Nat} {nm : Name} {i : Nat}, nameAt os k nm = some i → ∃ x, k ≤ i ∧ os[i - k]? = some x ∧ x.1 = nm
  | (b, cs) :: os, k, nm, i, h => by
    simp only [nameAt] at h
    split at h
    · rename_i e
      cases h
      exact ⟨(b, cs), Nat.le_refl _, by simp, e⟩
    · obtain ⟨x, h1, h2, h3⟩ := nameAt_spec h
      refine ⟨x, by omega, ?_, h3⟩
      rw [show i - k = (i - (k + 1)) + 1 by omega]
      simpa using h2

theorem nameAt_of : ∀ {os : List (Name × List (C U))} {k : Nat} {nm : Name} {i : Nat} {x : Name × List (C U)}, Apart os → os[i]? = some x → x.1 = nm → nameAt os k nm = some (k + i)
  | (b, cs) :: os, k, nm, 0, x, _, h, e => by simp at h; subst h; simp [nameAt]; intro h; exact absurd e h
  | (b, cs) :: os, k, nm, i + 1, x, hap, h, e => by
    simp only [nameAt]
    rw [if_neg (fun e' => by have := hap 0 (i + 1) (b, cs) x rfl h (by simp [e', e]); omega)]
    have := nameAt_of (k := k + 1) (nm := nm) (fun i j x y hx hy he => by have := hap (i + 1) (j + 1) x y (by simpa using hx) (by simpa using hy) he; omega) (by simpa using h) e
    rw [this]; congr 1; omega

theorem nameAt_none {os : List (Name × List (C U))} {nm : Name} (h : ∀ (i : Nat) x, os[i]? = some x → x.1 ≠ nm) (k : Nat) : nameAt os k nm = none := by
  cases hn : nameAt os k nm with
  | none => rfl
  | some i =>
    obtain ⟨x, _, h2, h3⟩ := nameAt_spec hn
    exact absurd h3 (h _ x h2)

/-- What handing on comes to. -/
theorem passArgs_ok {ps : Nat → Bool} : ∀ (xs : List (V U)) (i : Nat) (os : List (Name × List (C U))) (seen : List (Tok × Tok)) (ys : List (V U)) (os' : List (Name × List (C U))) (seen' : List (Tok × Tok)),
    passArgs st ps i xs os seen = some (ys, os', seen') → Apart os →
    Ext seen seen' ∧ (∃ more, os' = os ++ more) ∧ Apart os' ∧ ys.length = xs.length ∧
    (∀ (k : Nat) x, os'[k]? = some x → os.length ≤ k → ∃ cs, st.mem x.1 = some cs ∧ x.2.length = cs.length ∧
      ∀ s', Ext seen' s' → ∀ nx ax (i : Nat) v c c', cs[i]? = some c → x.2[i]? = some c' → RelC cfg g st.dead v c → RelC cfg (g.callee nx (newTok s') ax) alive v c') ∧
    (∀ s', Ext seen' s' → ∀ nx ax, (∀ (k : Nat) x, os'[k]? = some x → ax k = g.ad x.1) → ∀ (j : Nat) v x y, xs[j]? = some x → ys[j]? = some y → RelV cfg g st.dead (fun nm => (st.mem nm).isSome) v x →
      RelV cfg (g.callee nx (newTok s') ax) alive (fun nm => match nm with | .x k => (os'[k]?).isSome | .loc _ => false) v y)
  | [], i, os, seen, ys, os', seen', h, hap => by
    simp only [passArgs, Option.some.injEq, Prod.mk.injEq] at h
    obtain ⟨rfl, rfl, rfl⟩ := h
    exact ⟨.refl _, ⟨[], by simp⟩, hap, rfl, fun k x hx hk => by have := (List.getElem?_eq_some_iff.1 hx).1; omega, fun s' _ nx ax _ j v x y hx => by simp at hx⟩
  | x0 :: xs, i, os, seen, ys, os', seen', h, hap => by
    simp only [passArgs] at h
    split at h
    · rename_i nm hp
      have hx0 : x0 = .ptr nm 0 := by
        cases x0 <;> simp only [ptr0, reduceCtorEq] at hp
        split at hp
        · rename_i e; subst e; cases hp; rfl
        · cases hp
      subst hx0
      split at h
      · cases h
      · rename_i cs hcs
        split at h
        · cases h
        · rename_i hno
          split at h
          · rename_i vs os1 s1 hrec
            simp only [Option.some.injEq, Prod.mk.injEq] at h
            obtain ⟨rfl, rfl, rfl⟩ := h
            have hmine : ∀ t, (fun t => !st.dead t) t = true → st.dead t = false := fun t ht => by simpa using ht
            have hap1 : Apart (os ++ [(nm, (passC (fun t => !st.dead t) (.x os.length) 0 cs seen).1)]) := by
              intro p q x y hx hy he
              rw [List.getElem?_append] at hx hy
              have single : ∀ (r : Nat) (z z0 : Name × List (C U)), [z0][r]? = some z → r = 0 ∧ z = z0 := by
                intro r z z0 hz
                cases r with
                | zero => simp at hz; exact ⟨rfl, hz.symm⟩
                | succ r => simp at hz
              split at hx <;> split at hy
              · exact hap p q x y hx hy he
              · obtain ⟨_, rfl⟩ := single _ _ _ hy
                exact absurd (hasName_mem hx he) hno
              · obtain ⟨_, rfl⟩ := single _ _ _ hx
                exact absurd (hasName_mem hy he.symm) hno
              · have h1 := (single _ _ _ hx).1
                have h2 := (single _ _ _ hy).1
                omega
            obtain ⟨r1, ⟨more, r2⟩, r3, r4, r5, r6⟩ := passArgs_ok xs (i + 1) _ _ _ _ _ hrec hap1
            have hC := fun nx ax => passC_ok (cfg := cfg) (g := g) (nx := nx) (ax := ax) (mine := fun t => !st.dead t) (nm := .x os.length) hmine cs 0 seen
            have hat : os1[os.length]? = some (nm, (passC (fun t => !st.dead t) (.x os.length) 0 cs seen).1) := by
              rw [r2, List.append_assoc, List.getElem?_append_right (Nat.le_refl _)]; simp
            refine ⟨(hC (fun _ => none) (fun _ => ⟨0, 0, none⟩)).1.trans r1, ⟨(nm, (passC (fun t => !st.dead t) (.x os.length) 0 cs seen).1) :: more, by rw [r2]; simp⟩, r3, by simp [r4], ?_, ?_⟩
            · intro k x hx hk
              by_cases e : k = os.length
              · subst e
                rw [hat] at hx
                cases hx
                exact ⟨cs, hcs, (hC (fun _ => none) (fun _ => ⟨0, 0, none⟩)).2.1, fun s' hs nx ax q v c c' h1 h2 h3 => (hC nx ax).2.2 s' (r1.trans hs) q v c c' h1 h2 h3⟩
              · exact r5 k x hx (by simp; omega)
            · intro s' hs nx ax hax j v x y hx hy hr
              cases j with
              | zero =>
                simp at hx hy
                subst hx hy
                obtain ⟨_, rfl⟩ := hr
                have := hax _ _ hat
                simp only at this
                refine ⟨by simp [hat], by simp [Gh.callee, this]⟩
              | succ j => exact r6 s' hs nx ax hax j v x y (by simpa using hx) (by simpa using hy) hr
          · cases h
    · rename_i hp
      split at h
      · cases h
      · rename_i v' seen1 hv
        split at h
        · rename_i vs os1 s1 hrec
          simp only [Option.some.injEq, Prod.mk.injEq] at h
          obtain ⟨rfl, rfl, rfl⟩ := h
          obtain ⟨r1, r2, r3, r4, r5, r6⟩ := passArgs_ok xs (i + 1) _ _ _ _ _ hrec hap
          have hmine : ∀ t, (fun t => ps i && !st.dead t) t = true → st.dead t = false := fun t ht => by simp at ht; exact ht.2
          have hV := fun nx ax lx => passV_ok (cfg := cfg) (g := g) (nx := nx) (ax := ax) (live := fun nm => (st.mem nm).isSome) (lx := lx) hmine hv
          refine ⟨(hV (fun _ => none) (fun _ => ⟨0, 0, none⟩) (fun _ => true)).1.trans r1, r2, r3, by simp [r4], r5, ?_⟩
          intro s' hs nx ax hax j v x y hx hy hr
          cases j with
          | zero =>
            simp at hx hy
            subst hx hy
            exact (hV nx ax _).2 s' (r1.trans hs) v hr
          | succ j => exact r6 s' hs nx ax hax j v x y (by simpa using hx) (by simpa using hy) hr
        · cases h
end pass

/-! ### what comes back -/

/-- The ghost state as the caller has it again. -/
def Gh.back (g' : Gh) (os : List (Name × List (C U))) (d : Nat) (ad : Name → Addr) : Gh :=
  { m := g'.m
    tag := fun c => match g'.tag c with
      | some (.outer t) => some t
      | some (.obj (.x k)) => (os[k]?).map fun x => .obj x.1
      | some (.tok t) => (backTok d t).map .tok
      | _ => none
    ad := ad }

section back
variable {g' : Gh} {os : List (Name × List (C U))} {d : Nat} {ad : Name → Addr} {dead : Tok → Bool} {live lv : Name → Bool}

theorem RelC.back {v : Value} {c : C U} (h : RelC cfg g' alive v c) : RelC cfg (g'.back os d ad) dead v (c.mapTok (backTok d)) := by
  obtain ⟨h1, h2⟩ := h
  cases c with
  | slice T l tl =>
    cases tl with
    | unk => exact ⟨h1, trivial⟩
    | full => exact ⟨h1, h2⟩
    | own t =>
      simp only [C.mapTok]
      cases hb : backTok d t with
      | none => exact ⟨h1.tl _, trivial⟩
      | some t' =>
        refine ⟨h1.tl _, fun _ b len cap hv j hj1 hj2 => ?_⟩
        have := h2 rfl b len cap hv j hj1 hj2
        simp only [Gh.back, this, hb, Option.map_some]
  | _ => exact ⟨h1, trivial⟩

theorem RelL.back {vs : List Value} {cs : List (C U)} (h : RelL cfg g' alive vs cs) : RelL cfg (g'.back os d ad) dead vs (cs.map (C.mapTok (backTok d))) := by
  refine ⟨by simp [h.1], fun j v c hv hc => ?_⟩
  rw [List.getElem?_map] at hc
  cases hcj : cs[j]? with
  | none => simp [hcj] at hc
  | some c0 =>
    simp [hcj] at hc
    subst hc
    exact (h.2 j v c0 hv hcj).back

theorem RelV.back {v : Value} : ∀ {x : V U}, RelV cfg g' alive (fun _ => false) v x → RelV cfg (g'.back os d ad) dead live v (x.mapTok (backTok d))
  | .c x, h => RelC.back (c := x) h
  | .agg cs, h => by obtain ⟨vs, h1, h2⟩ := h; exact ⟨vs, h1, h2.back⟩
  | .tup ws, h => by
    obtain ⟨vs, h1, h2, h3⟩ := h
    refine ⟨vs, h1, by simp [h2], fun j u w hu hw => ?_⟩
    rw [List.getElem?_map] at hw
    cases hj : ws[j]? with
    | none => simp [hj] at hw
    | some w0 =>
      simp [hj] at hw
      subst hw
      have := h3 j u w0 hu hj
      obtain ⟨ag, cs⟩ := w0
      cases ag with
      | true => obtain ⟨vs, h4, h5⟩ := this; exact ⟨vs, h4, h5.back⟩
      | false => obtain ⟨c, h4, h5⟩ := this; simp only at h4; subst h4; exact ⟨_, rfl, h5.back⟩
  | .ptr nm off, h => by cases h.1
  | .ap nm off k len n, h => by cases h.1
  | .ep cs, h => by
    obtain ⟨b, h1, h2⟩ := h
    refine ⟨b, h1, fun j c hc => ?_⟩
    rw [List.getElem?_map] at hc
    cases hcj : cs[j]? with
    | none => simp [hcj] at hc
    | some c0 =>
      simp [hcj] at hc
      subst hc
      obtain ⟨u, h3, h4⟩ := h2 j c0 hcj
      exact ⟨u, h3, h4.back⟩
  | .fn f, h => h
  | .gd b x, h => ⟨fun hb => RelV.back (h.1 hb), h.2⟩
  | .nb _ _, h => h
  | .junk, _ => trivial
end back

theorem memBack_spec {d : Nat} : ∀ {os : List (Name × List (C U))} {xs : List (List (C U))} {m : List (Name × List (C U))}, memBack d os xs = some m →
    xs.length = os.length ∧ m.length = os.length ∧ ∀ (k : Nat) x cs, os[k]? = some x → xs[k]? = some cs → m[k]? = some (x.1, cs.map (C.mapTok (backTok d)))
  | [], [], m, h => by simp only [memBack, Option.some.injEq] at h; subst h; exact ⟨rfl, rfl, fun k x cs hx => by simp at hx⟩
  | (nm, _) :: os, cs0 :: xs, m, h => by
    simp only [memBack] at h
    cases hr : memBack d os xs with
    | none => simp [hr] at h
    | some m' =>
      simp only [hr, Option.map_some, Option.some.injEq] at h
      subst h
      obtain ⟨h1, h2, h3⟩ := memBack_spec hr
      refine ⟨by simp [h1], by simp [h2], fun k x cs hx hc => ?_⟩
      cases k with
      | zero => simp at hx hc; subst hx hc; rfl
      | succ k => simpa using h3 k x cs (by simpa using hx) (by simpa using hc)

theorem memSet_cases (m0 : Name → Option (List (C U))) : ∀ (m : List (Name × List (C U))) (nm : Name), (∃ (k : Nat) (cs : List (C U)), m[k]? = some (nm, cs) ∧ memSet m0 m nm = some cs) ∨ ((∀ (k : Nat) x, m[k]? = some x → x.1 ≠ nm) ∧ memSet m0 m nm = m0 nm)
  | [], nm => .inr ⟨fun k x hx => by simp at hx, rfl⟩
  | (a, cs) :: r, nm => by
    simp only [memSet]
    split
    · rename_i e
      subst e
      exact .inl ⟨0, cs, rfl, rfl⟩
    · rename_i e
      rcases memSet_cases m0 r nm with ⟨k, cs', h1, h2⟩ | ⟨h1, h2⟩
      · exact .inl ⟨k + 1, cs', by simpa using h1, h2⟩
      · refine .inr ⟨fun k x hx => ?_, h2⟩
        cases k with
        | zero => simp at hx; subst hx; exact fun h => e h.symm
        | succ k => exact h1 k x (by simpa using hx)

theorem mapM_opnd {xs : List Operand} {vs : List (V U)} (hm : xs.mapM st.opnd = some vs) (hop : ∀ x ∈ xs, ∀ v, st.opnd x = some v → RelV cfg g st.dead (fun nm => (st.mem nm).isSome) (a.eval x) v) :
    (xs.map a.eval).length = vs.length ∧ ∀ (j : Nat) u x, (xs.map a.eval)[j]? = some u → vs[j]? = some x → RelV cfg g st.dead (fun nm => (st.mem nm).isSome) u x := by
  have hlen : ∀ {xs : List Operand} {vs : List (V U)}, xs.mapM st.opnd = some vs → xs.length = vs.length := by
    intro xs
    induction xs with
    | nil => intro vs h; simp at h; subst h; rfl
    | cons y xs ih =>
      intro vs h
      rw [List.mapM_cons] at h
      cases h1 : st.opnd y with
      | none => simp [h1] at h
      | some v =>
        cases h2 : xs.mapM st.opnd with
        | none => simp [h1, h2] at h
        | some r =>
          simp [h1, h2] at h
          subst h
          simp [ih h2]
  refine ⟨by simp [hlen hm], fun j u x hu hx => ?_⟩
  rw [List.getElem?_map] at hu
  cases hj : xs[j]? with
  | none => simp [hj] at hu
  | some y =>
    simp [hj] at hu
    subst hu
    obtain ⟨v, h1, h2⟩ := mapM_get hm j y hj
    rw [hx] at h1
    cases h1
    exact hop y (List.mem_of_getElem? hj) x h2

/-- A call. -/
theorem call_sound {Γ : Known U} (hΓ : ∀ f s, Γ f = some s → Contract P cfg f s) (h : Rel cfg B st g a w) {o : Oper} {c : Call} {gx : Operand} {f : FuncId} {args : List (V U)} {ps : List Prop} {e : Eff U} {d : Nat}
    (ho : o.op = .call c) (hc : c.callee = .value gx) (hg : a.eval gx = .func (.func f) #[] #[])
    (hargs : (c.args.toList.map a.eval).length = args.length ∧ ∀ (j : Nat) u x, (c.args.toList.map a.eval)[j]? = some u → args[j]? = some x → RelV cfg g st.dead (fun nm => (st.mem nm).isSome) u x)
    (he : aCall Γ st d f args = some (ps, e)) (hps : All ps) :
    Does P o a w fun v w' => ∃ g', Out cfg B st g e v w' g' := by
  unfold aCall at he
  split at he
  · cases he
  rename_i s hs
  split at he
  · cases he
  rename_i ys os toks hpass
  split at he
  · cases he
  rename_i ps' r xs hfn
  split at he
  · cases he
  rename_i m hmb
  simp only [Option.some.injEq, Prod.mk.injEq] at he
  obtain ⟨rfl, rfl⟩ := he
  obtain ⟨⟨fn, hf1, hf2, hf3⟩, hcon⟩ := hΓ f s hs
  obtain ⟨p1, _, p3, p4, p5, p6⟩ := passArgs_ok (cfg := cfg) (g := g) _ _ _ _ _ _ _ hpass (fun i j x y hx => by simp at hx)
  obtain ⟨b1, b2, b3⟩ := memBack_spec hmb
  let ax : Nat → Addr := fun k => ((os[k]?).map fun x => g.ad x.1).getD ⟨0, 0, none⟩
  have hax : ∀ (k : Nat) x, os[k]? = some x → ax k = g.ad x.1 := fun k x hx => by simp [ax, hx]
  let gc := g.callee (nameAt os 0) (newTok toks) ax
  have htag : ∀ c t, gc.tag c = some (.outer t) ↔ (g.tag c = some t ∧ (∀ nm, t = .obj nm → nameAt os 0 nm = none) ∧ (∀ u, t = .tok u → newTok toks u = none)) := by
    intro c t
    simp only [gc, Gh.callee]
    cases hgt : g.tag c with
    | none => simp
    | some t0 =>
      cases t0 with
      | obj nm =>
        cases hn : nameAt os 0 nm with
        | none =>
          simp only [hn]
          constructor
          · intro h; cases h; exact ⟨rfl, fun nm' e => by cases e; exact hn, fun u e => by cases e⟩
          · rintro ⟨h1, _, _⟩; cases h1; rfl
        | some k =>
          simp only [hn]
          constructor
          · intro h; cases h
          · rintro ⟨h1, h2, _⟩; cases h1; rw [h2 nm rfl] at hn; cases hn
      | tok u =>
        cases hn : newTok toks u with
        | none =>
          simp only [hn]
          constructor
          · intro h; cases h; exact ⟨rfl, fun nm' e => by (cases e), fun u' e => by cases e; exact hn⟩
          · rintro ⟨h1, _, _⟩; cases h1; rfl
        | some k =>
          simp only [hn]
          constructor
          · intro h; cases h
          · rintro ⟨h1, _, h2⟩; cases h1; rw [h2 u rfl] at hn; cases hn
      | outer t0 =>
        simp only
        constructor
        · intro h; cases h; exact ⟨rfl, fun nm' e => by (cases e), fun u' e => by (cases e)⟩
        · rintro ⟨h1, _, _⟩; cases h1; rfl
  have hsome : ∀ c t, gc.tag c = some t → ∃ t0, g.tag c = some t0 := by
    intro c t ht
    simp only [gc, Gh.callee] at ht
    cases hgt : g.tag c with
    | none => simp [hgt] at ht
    | some t0 => exact ⟨t0, rfl⟩
  have hnone : ∀ c, g.tag c = none → gc.tag c = none := by
    intro c hc
    simp only [gc, Gh.callee, hc]
  have hentry : Entry cfg w gc (c.args.toList.map a.eval) ys (os.map (·.2)) := by
    refine ⟨⟨fun c v hv => ?_, fun c t ht => ?_⟩, fun c t ht => ?_, by rw [hargs.1, p4], fun j v x hv hx => ?_, fun k cs hk j c hj => ?_⟩
    · obtain ⟨h1, h2⟩ := h.inv.im c v hv
      exact ⟨h1, hnone c h2⟩
    · obtain ⟨t0, ht0⟩ := hsome c t ht
      exact h.inv.it c t0 ht0
    · simp only [gc, Gh.callee] at ht
      split at ht
      · split at ht
        · cases ht; exact .inr (.inl ⟨_, rfl⟩)
        · cases ht; exact .inl ⟨_, rfl⟩
      · split at ht
        · cases ht; exact .inr (.inr ⟨_, rfl⟩)
        · cases ht; exact .inl ⟨_, rfl⟩
      · cases ht; exact .inl ⟨_, rfl⟩
      · cases ht
    · have hj : j < args.length := by have := (List.getElem?_eq_some_iff.1 hx).1; omega
      have hax' := List.getElem?_eq_getElem hj
      have := p6 toks (.refl _) (nameAt os 0) ax hax j v _ x hax' hx (hargs.2 j v _ hv hax')
      have hl : liveX (os.map (·.2)) = fun nm : Name => match nm with | .x k => (os[k]?).isSome | .loc _ => false := by
        funext nm; cases nm <;> simp [liveX]
      rw [hl]
      exact this
    · rw [List.getElem?_map] at hk
      cases hx : os[k]? with
      | none => simp [hx] at hk
      | some x =>
        simp [hx] at hk
        subst hk
        obtain ⟨cs0, h1, h2, h3⟩ := p5 k x hx (by simp)
        have hj0 : j < cs0.length := by have := (List.getElem?_eq_some_iff.1 hj).1; omega
        obtain ⟨v, h4, h5, h6⟩ := h.mem x.1 cs0 h1 j _ (List.getElem?_eq_getElem hj0)
        have had : gc.ad (.x k) = g.ad x.1 := hax k x hx
        rw [had]
        refine ⟨v, h4, ?_, h3 toks (.refl _) _ _ j v _ c (List.getElem?_eq_getElem hj0) hj h6⟩
        have hn : nameAt os 0 x.1 = some k := by have := nameAt_of (k := 0) p3 hx rfl; simpa using this
        simp only [gc, Gh.callee, h5, hn]
  have hcall := hcon ys (os.map (·.2)) _ r xs hfn hps (by rw [b1]; simp) w gc _ hentry
  refine .inr (.inr ⟨f, (c.args.toList.map a.eval).toArray, w, ?_, Calls.mono hcall ?_⟩)
  · have hb : fn.body.isNone = false := by cases hfb : fn.body <;> simp_all
    simp only [execOp, ho, resolve, hc, hg, Deferred.ofValue, Sem.run_bind, Sem.run_pure, Result.andThen_ok, invoke, callFunc, run_program, hf1]
    simp [hf3, hb]
    apply Array.ext'
    simp
  · rintro e' w' ⟨v, g', rfl, L⟩
    refine ⟨v, rfl, g'.back os d g.ad, ?_⟩
    have hgm : gc.m = g.m := rfl
    -- a tag that was there comes back
    have hback : ∀ c t, g.tag c = some t → (∀ nm, t = .obj nm → nameAt os 0 nm = none) → (∀ u, t = .tok u → newTok toks u = none) → (g'.back os d g.ad).tag c = some t ∧ w'.cell? c = w.cell? c := by
      intro c t h1 h2 h3
      have := L.fr.outer c t ((htag c t).2 ⟨h1, h2, h3⟩)
      exact ⟨by simp only [Gh.back, this.1], this.2⟩
    have hbtag : ∀ c t, (g'.back os d g.ad).tag c = some t → ∃ t', g'.tag c = some t' := by
      intro c t ht
      simp only [Gh.back] at ht
      cases hgt : g'.tag c with
      | none => simp [hgt] at ht
      | some t' => exact ⟨t', rfl⟩
    have hdl : ∀ t, dead' st ({ val := some (r.mapTok (backTok d)), mem := m, kill := toks.map (·.1) } : Eff U) t = false → st.dead t = false ∧ newTok toks t = none := by
      intro t ht
      simp only [dead', Bool.or_eq_false_iff] at ht
      refine ⟨ht.1, ?_⟩
      cases hn : newTok toks t with
      | none => rfl
      | some t' => have := newTok_mem hn; rw [ht.2] at this; cases this
    have hkeep : Keeps g (g'.back os d g.ad) st.dead (dead' st ({ val := some (r.mapTok (backTok d)), mem := m, kill := toks.map (·.1) } : Eff U)) (fun nm => (st.mem nm).isSome) (live' st ({ val := some (r.mapTok (backTok d)), mem := m, kill := toks.map (·.1) } : Eff U)) := by
      refine ⟨fun c v hv => L.fr.mono c v hv, fun c t hd ht => ?_, fun t ht => (hdl t ht).1, fun nm hn => ⟨?_, rfl⟩⟩
      · exact (hback c _ ht (fun nm e => by cases e) (fun u e => by cases e; exact (hdl _ hd).2)).1
      · simp only [live']
        rcases memSet_cases st.mem m nm with ⟨k, cs, _, h2⟩ | ⟨_, h2⟩
        · rw [h2]; rfl
        · rw [h2]; exact hn
    refine ⟨⟨fun c v hv => ?_, fun c t ht => ?_⟩, ?_, hkeep, ?_, L.val.back⟩
    · obtain ⟨h1, h2⟩ := L.inv.im c v hv
      exact ⟨h1, by simp only [Gh.back, h2]⟩
    · obtain ⟨t', ht'⟩ := hbtag c t ht
      exact L.inv.it c t' ht'
    · refine ⟨h.fr.stay.trans L.fr.stay, h.fr.xad, fun c v hv => L.fr.mono c v (h.fr.mono c v hv), fun c t ht => ?_, fun c t ht => ?_, fun b hb hcl => ?_⟩
      · obtain ⟨h1, h2⟩ := h.fr.outer c t ht
        obtain ⟨h3, h4⟩ := hback c _ h1 (fun nm e => by cases e) (fun u e => by cases e)
        exact ⟨h3, h4.trans h2⟩
      · simp only [Gh.back] at ht
        split at ht
        · rename_i t' ht'
          cases ht
          have := (htag c _).1 (L.fr.outer' c _ ht')
          exact h.fr.outer' c t this.1
        · cases hx : os[‹Nat›]? with
          | none => simp [hx] at ht
          | some x => simp [hx] at ht
        · cases hx : backTok d ‹Tok› with
          | none => simp [hx] at ht
          | some x => simp [hx] at ht
        · cases ht
      · obtain ⟨h1, h2⟩ := h.fr.clean b hb hcl
        have hall : ∀ o s t, g.tag ⟨b, o, s⟩ = some t → ∃ t', t = .outer t' := fun o s t ht => hcl o s t (by rw [← h2]; exact ht)
        have hcall' : ∀ o s t, gc.tag ⟨b, o, s⟩ = some t → ∃ t', t = .outer t' := by
          intro o s t ht
          obtain ⟨t0, ht0⟩ := hsome _ _ ht
          obtain ⟨t1, rfl⟩ := hall o s t0 ht0
          have := (htag ⟨b, o, s⟩ (.outer t1)).2 ⟨ht0, (fun nm e => by cases e), (fun u e => by cases e)⟩
          rw [ht] at this
          cases this
          exact ⟨_, rfl⟩
        obtain ⟨h3, h4⟩ := L.fr.clean b (Nat.lt_of_lt_of_le hb h.fr.stay.size) hcall'
        refine ⟨h3.trans h1, fun o s => ?_⟩
        rw [← h2 o s]
        have h5 : g'.tag ⟨b, o, s⟩ = gc.tag ⟨b, o, s⟩ := h4 o s
        cases hgt : g.tag ⟨b, o, s⟩ with
        | none =>
          simp only [Gh.back, h5, hnone _ hgt]
        | some t =>
          obtain ⟨t1, rfl⟩ := hall o s t hgt
          exact (hback _ _ hgt (fun nm e => by cases e) (fun u e => by cases e)).1
    · intro nm cs hm j cc hj
      rcases memSet_cases st.mem m nm with ⟨k, cs', h1, h2⟩ | ⟨h1, h2⟩
      · rw [h2] at hm
        cases hm
        have hk : k < os.length := by have := (List.getElem?_eq_some_iff.1 h1).1; omega
        have hok : os[k]? = some os[k] := List.getElem?_eq_getElem hk
        have hxk : xs[k]? = some (xs[k]'(by omega)) := List.getElem?_eq_getElem _
        have h3 := b3 k _ _ hok hxk
        rw [h1] at h3
        simp only [Option.some.injEq, Prod.mk.injEq] at h3
        obtain ⟨rfl, rfl⟩ := h3
        rw [List.getElem?_map] at hj
        cases hj0 : (xs[k]'(by omega))[j]? with
        | none => simp [hj0] at hj
        | some c0 =>
          simp [hj0] at hj
          subst hj
          obtain ⟨v0, h4, h5, h6⟩ := L.x k _ hxk j c0 hj0
          have had : g'.ad (.x k) = g.ad os[k].1 := (L.ad k).trans (hax k _ hok)
          rw [had] at h4 h5
          refine ⟨v0, h4, ?_, h6.back⟩
          show (g'.back os d g.ad).tag ((g.ad os[k].1).add j) = _
          simp only [Gh.back, h5, hok, Option.map_some]
      · rw [h2] at hm
        obtain ⟨v0, h4, h5, h6⟩ := h.mem nm cs hm j cc hj
        have hn : nameAt os 0 nm = none := nameAt_none (fun i x hx e => by
          have hi : i < m.length := by have := (List.getElem?_eq_some_iff.1 hx).1; omega
          have hxi : xs[i]? = some (xs[i]'(by omega)) := List.getElem?_eq_getElem _
          exact h1 i _ (b3 i x _ hx hxi) e) 0
        obtain ⟨h7, h8⟩ := hback _ _ h5 (fun nm' e => by cases e; exact hn) (fun u e => by cases e)
        exact ⟨v0, h8.trans h4, h7, h6.keep hkeep⟩

end Go.AM
