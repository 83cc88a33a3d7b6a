import Derived.Test.YtcljdbpmjdgooaaEmJ
import Derived.Test.YtcljdbpmjdgooaaEmS
import Derived.Deep.LoopGhost
set_option linter.unusedSimpArgs false
set_option linter.unusedVariables false
namespace Go.AM
variable {U : Uni} {P : Program} {cfg : Cfg U} {B : Base} {st : FSt U} {g : Gh} {a : Act} {w : World}

structure LSt (U : Uni) where
  env : List (Nat × V U)
  mem : List (Name × List (C U))
  ls : List (Tok × LC U)

def look : List (Nat × V U) → Nat → V U
  | [], _ => .junk
  | (a, v) :: r, k => bif Nat.beq a k then v else look r k

def lookM : List (Name × List (C U)) → Name → Option (List (C U))
  | [], _ => none
  | (a, cs) :: r, nm => if a = nm then some cs else lookM r nm

def LSt.toF (s : LSt U) (n : Nat) : FSt U := { n := n, env := look s.env, mem := lookM s.mem, dead := alive, ls := lsSet (fun _ => none) s.ls, mu := false, vw := false }

def isApp (t : Nat) (o : Oper) : Bool :=
  match o.op, o.dst with
  | .call c, some d => match c.callee with
    | .builtin .append => Nat.beq d t
    | _ => false
  | _, _ => false

def isIdx (ops : List Oper) (o : Oper) : Bool :=
  match o.op with
  | .indexAddr _ (.tmp t) _ => ops.any (isApp t)
  | _ => false

def isClr (o : Oper) : Bool :=
  match o.op with
  | .call c => match c.callee with
    | .builtin .clear => true
    | .builtin .copy => true
    | _ => false
  | _ => false

def LSt.toR (s : LSt U) (n : Nat) (mk : Bool) (ops : Array Oper) : FSt U := { n := n, env := look s.env, mem := lookM s.mem, dead := alive, ls := lsSet (fun _ => none) s.ls, mu := mk || ops.toList.any (isIdx ops.toList), vw := ops.toList.any isClr }

theorem toR_rel {s : LSt U} {n : Nat} {mk : Bool} {ops : Array Oper} (h : Rel cfg B (s.toF n) g a w) : Rel cfg B (s.toR n mk ops) g a w :=
  ⟨h.inv, h.fr, h.env, h.mem, h.sz, h.df, h.ls, h.fresh⟩

inductive Sk (U : Uni) where
  | any | own (T : U.Ty) | unk (T : U.Ty) | wr (T : U.Ty) | pt (T : U.Ty)
  | ar

def sk0 : List (Sk U) → Sk U
  | [] => .any
  | k :: _ => k

def normC (mine : Tok → Bool) (nm : Tok) (k : Sk U) (c : C U) (seen : List (Tok × Tok)) : C U × List (Tok × Tok) :=
  match k, c with
  | .own T, .nils => (.slice T [] (.own nm), seen)
  | .own _, .slice T l .full => (.slice T l (.own nm), seen)
  | .unk T, .nils => (.slice T [] .unk, seen)
  | .unk _, .slice T l _ => (.slice T l .unk, seen)
  | .pt T, .nilp => (.po T none, seen)
  | _, .xp k => (.xp k, seen)
  | _, c => passC1 mine nm c seen

def normL (mine : Tok → Bool) (nm : Nat → Tok) : Nat → List (Sk U) → List (C U) → List (Tok × Tok) → List (C U) × List (Tok × Tok)
  | _, _, [], seen => ([], seen)
  | j, ks, c :: r, seen => ((normC mine (nm j) (sk0 ks) c seen).1 :: (normL mine nm (j + 1) ks.tail r (normC mine (nm j) (sk0 ks) c seen).2).1, (normL mine nm (j + 1) ks.tail r (normC mine (nm j) (sk0 ks) c seen).2).2)

def normV (mine : Tok → Bool) (nm : Nat → Tok) (keep : Name → Bool) (ks : List (Sk U)) (v : V U) (seen : List (Tok × Tok)) : V U × List (Tok × Tok) :=
  match v with
  | .c x => (.c (normC mine (nm 0) (sk0 ks) x seen).1, (normC mine (nm 0) (sk0 ks) x seen).2)
  | .agg cs => (.agg (normL mine nm 0 ks cs seen).1, (normL mine nm 0 ks cs seen).2)
  | .ptr nm off => (bif keep nm then .ptr nm off else .junk, seen)
  | .ep cs => (.ep (passC (fun _ => false) nm 0 cs seen).1, (passC (fun _ => false) nm 0 cs seen).2)
  | .fn f => (.fn f, seen)
  | .clo f nms => (bif nms.all keep then .clo f nms else .junk, seen)
  | .nb p q => (.nb p q, seen)
  | _ => (.junk, seen)

def normEnv (st : FSt U) (keep : Name → Bool) : List (Nat × List (Sk U)) → List (Tok × Tok) → List (Nat × V U) × List (Tok × Tok)
  | [], seen => ([], seen)
  | (k, ks) :: r, seen => ((k, (normV (fun t => !st.dead t) (.e k) keep ks (st.env k) seen).1) :: (normEnv st keep r (normV (fun t => !st.dead t) (.e k) keep ks (st.env k) seen).2).1,
      (normEnv st keep r (normV (fun t => !st.dead t) (.e k) keep ks (st.env k) seen).2).2)

def tokAt : Name → Nat → Tok
  | .loc s, j => .l s j
  | .x k, j => .x k j

def normMem (st : FSt U) : List (Name × List (Sk U)) → List (Tok × Tok) → List (Name × List (C U)) × List (Tok × Tok)
  | [], seen => ([], seen)
  | (nm, ks) :: r, seen => match st.mem nm with
    | some cs => ((nm, (normL (fun t => !st.dead t) (tokAt nm) 0 ks cs seen).1) :: (normMem st r (normL (fun t => !st.dead t) (tokAt nm) 0 ks cs seen).2).1, (normMem st r (normL (fun t => !st.dead t) (tokAt nm) 0 ks cs seen).2).2)
    | none => normMem st r seen

def memListS (l : List (Name × List (Sk U))) (nm : Name) : Bool :=
  match l with
  | [] => false
  | (a, _) :: r => if a = nm then true else memListS r nm

def candL (nm : Nat → Tok) : Nat → List (Sk U) → List Tok
  | _, [] => []
  | j, .wr _ :: r => nm j :: candL nm (j + 1) r
  | j, _ :: r => candL nm (j + 1) r

def cands (lv : List (Nat × List (Sk U))) (lm : List (Name × List (Sk U))) : List Tok :=
  (lv.flatMap fun x => candL (.e x.1) 0 x.2) ++ lm.flatMap fun x => candL (tokAt x.1) 0 x.2

def candsA (seen : List (Tok × Tok)) (l : List Tok) : List Tok := bif (oldTok seen .A).isSome then .A :: l else l

def norm (lv : List (Nat × List (Sk U))) (lm : List (Name × List (Sk U))) (st : FSt U) : LSt U :=
  { env := (normEnv st (fun nm => memListS lm nm && (st.mem nm).isSome) lv []).1
    mem := (normMem st lm (normEnv st (fun nm => memListS lm nm && (st.mem nm).isSome) lv []).2).1
    ls := match candsA (normMem st lm (normEnv st (fun nm => memListS lm nm && (st.mem nm).isSome) lv []).2).2 (cands lv lm) with
      | [] => []
      | c => normLs st.ls (normMem st lm (normEnv st (fun nm => memListS lm nm && (st.mem nm).isSome) lv []).2).2 c }

def needOf (k : Sk U) (c : C U) : List Tok :=
  match k, c with
  | .wr _, _ => []
  | .ar, _ => []
  | _, .mref t => [t]
  | _, _ => []

def needL : List (Sk U) → List (C U) → List Tok
  | _, [] => []
  | ks, c :: r => needOf (sk0 ks) c ++ needL ks.tail r

def needV (ks : List (Sk U)) : V U → List Tok
  | .c x => needOf (sk0 ks) x
  | .agg cs => needL ks cs
  | _ => []

def normNeed (lv : List (Nat × List (Sk U))) (lm : List (Name × List (Sk U))) (st : FSt U) : List Tok :=
  (lv.flatMap fun x => needV x.2 (st.env x.1)) ++ lm.flatMap fun x => match st.mem x.1 with
    | some cs => needL x.2 cs
    | none => []

def FSt.prom1 (cfg : Cfg U) (st : FSt U) (k : Nat) (T : U.Ty) : FSt U :=
  match st.env k with
  | .c .nils => if (st.ls (.z (3 * k) 0)).isNone && !st.dead (.z (3 * k) 0) && (cfg.aT T).isNone then
      { st with env := fun i => bif Nat.beq i k then .c (.mref (.z (3 * k) 0)) else st.env i, ls := fun t => if t = .z (3 * k) 0 then some ⟨T, [], 0⟩ else st.ls t }
    else st
  | _ => st

def nameZ : Name → Nat
  | .loc s => 3 * s + 1
  | .x k => 3 * k + 2

def FSt.promM (cfg : Cfg U) (st : FSt U) (nm : Name) (j : Nat) (T : U.Ty) : FSt U :=
  match st.mem nm with
  | some cs => match cs[j]? with
    | some .nils => if (st.ls (.z (nameZ nm) j)).isNone && !st.dead (.z (nameZ nm) j) && (cfg.aT T).isNone then
        { st with mem := fun n => if n = nm then some (cs.set j (.mref (.z (nameZ nm) j))) else st.mem n, ls := fun t => if t = .z (nameZ nm) j then some ⟨T, [], 0⟩ else st.ls t }
      else st
    | _ => st
  | none => st

def FSt.prom (cfg : Cfg U) (st : FSt U) : List ((Nat ⊕ (Name × Nat)) × U.Ty) → FSt U
  | [] => st
  | (.inl k, T) :: r => (st.prom1 cfg k T).prom cfg r
  | (.inr x, T) :: r => (st.promM cfg x.1 x.2 T).prom cfg r

def wrsM (nm : Name) : Nat → List (Sk U) → List ((Nat ⊕ (Name × Nat)) × U.Ty)
  | _, [] => []
  | j, .wr T :: r => (.inr (nm, j), T) :: wrsM nm (j + 1) r
  | j, _ :: r => wrsM nm (j + 1) r

def wrs (lm : List (Name × List (Sk U))) : List (Nat × List (Sk U)) → List ((Nat ⊕ (Name × Nat)) × U.Ty)
  | [] => lm.flatMap fun x => wrsM x.1 0 x.2
  | (k, [.wr T]) :: r => (.inl k, T) :: wrs lm r
  | _ :: r => wrs lm r

def pts : List (Nat × List (Sk U)) → List (Nat × U.Ty)
  | [] => []
  | (k, [.pt T]) :: r => (k, T) :: pts r
  | _ :: r => pts r

def onProm {α : Type} (cfg : Cfg U) (st : FSt U) (k : FSt U → α) : List ((Nat ⊕ (Name × Nat)) × U.Ty) → α
  | [] => k st
  | x :: r => k (st.prom cfg (x :: r))

def settle {α : Type} (cfg : Cfg U) (lv : List (Nat × List (Sk U))) (lm : List (Name × List (Sk U))) (st : FSt U) (k : FSt U → α) : α :=
  onProm cfg st (fun st => onShut cfg st (fun st => onFrz cfg st k (normNeed lv lm st)) (pts lv)) (wrs lm lv)

theorem memList_mem : ∀ {l : List Name} {nm : Name}, nm ∈ l → memList l nm = true
  | a :: r, nm, h => by
    simp only [memList]
    split
    · rfl
    · rename_i e
      rcases List.mem_cons.1 h with rfl | h
      · grind
      · exact memList_mem h

structure RenA (ok : Tok → Bool) (g : Gh) (s : List (Tok × Tok)) (g2 : Gh) : Prop extends Ren ok g s g2 where
  adx : ∀ k, g2.ad (.x k) = g.ad (.x k)

theorem normC_gen {okT mine : Tok → Bool} {nm : Tok} {k : Sk U} {c : C U} {seen : List (Tok × Tok)} (hmine : ∀ t, mine t = true → st.dead t = false) (hok : okT nm = true) (hoA : okT .A = true) :
    Ext seen (normC mine nm k c seen).2 ∧ ∀ s', Ext (normC mine nm k c seen).2 s' → ∀ g2, RenA okT g s' g2 → ∀ v, RelC cfg g st.dead v c → RelC cfg g2 alive v (normC mine nm k c seen).1 := by
  unfold normC
  split
  · rename_i T
    refine ⟨.refl _, fun s' _ g2 hg v hr => ?_⟩
    have h1 := hr.1
    cases h1
    exact ⟨.snil T _, fun _ _ a len cap hv => by simp at hv⟩
  · rename_i T0 T l
    refine ⟨.refl _, fun s' _ g2 hg v hr => ⟨by rw [hg.m]; exact hr.1.tl _, fun _ _ b len cap hv j h1 h2 => ?_⟩⟩
    have := hr.2 _ _ _ hv
    grind
  · rename_i T
    refine ⟨.refl _, fun s' _ g2 hg v hr => ?_⟩
    have h1 := hr.1
    cases h1
    exact ⟨.snil T _, trivial⟩
  · exact ⟨.refl _, fun s' _ g2 hg v hr => ⟨by rw [hg.m]; exact hr.1.tl _, trivial⟩⟩
  · rename_i T
    refine ⟨.refl _, fun s' _ g2 hg v hr => ?_⟩
    have h1 := hr.1
    cases h1
    exact ⟨.pnil T, trivial⟩
  · refine ⟨.refl _, fun s' _ g2 hg v hr => ⟨.xp _ _ hr.1.one, ?_⟩⟩
    have h2 : v = .pointer (some (g.ad (.x _))) := hr.2
    show v = .pointer (some (g2.ad (.x _)))
    rw [hg.adx]; exact h2
  · obtain ⟨h1, h2⟩ := passC1_gen (cfg := cfg) (st := st) (g := g) (nm := nm) (c := c) (seen := seen) hmine hok hoA
    exact ⟨h1, fun s' hs g2 hg v hr => h2 s' hs g2 hg.toRen v hr⟩

theorem normL_gen {okT mine : Tok → Bool} {nm : Nat → Tok} (hmine : ∀ t, mine t = true → st.dead t = false) (hok : ∀ j, okT (nm j) = true) (hoA : okT .A = true) : ∀ (cs : List (C U)) (j : Nat) (ks : List (Sk U)) (seen : List (Tok × Tok)),
    Ext seen (normL mine nm j ks cs seen).2 ∧ (normL mine nm j ks cs seen).1.length = cs.length ∧
      ∀ s', Ext (normL mine nm j ks cs seen).2 s' → ∀ g2, RenA okT g s' g2 → ∀ (i : Nat) v c c', cs[i]? = some c → (normL mine nm j ks cs seen).1[i]? = some c' → RelC cfg g st.dead v c → RelC cfg g2 alive v c'
  | [], j, ks, seen => ⟨.refl _, rfl, fun s' _ g2 _ i v c c' hc => by simp at hc⟩
  | c :: cs, j, ks, seen => by
    obtain ⟨h1, h2⟩ := normC_gen (cfg := cfg) (g := g) (okT := okT) (nm := nm j) (k := sk0 ks) (c := c) (seen := seen) hmine (hok j) hoA
    obtain ⟨h3, h4, h5⟩ := normL_gen (okT := okT) (mine := mine) (nm := nm) hmine hok hoA cs (j + 1) ks.tail (normC mine (nm j) (sk0 ks) c seen).2
    refine ⟨h1.trans h3, by simp [normL, h4], fun s' hs g2 hg i v c0 c' hc hc' hr => ?_⟩
    cases i with
    | zero =>
      simp [normL] at hc hc'
      subst hc hc'
      exact h2 s' (h3.trans hs) g2 hg v hr
    | succ i =>
      simp [normL] at hc hc'
      exact h5 s' hs g2 hg i v c0 c' hc hc' hr

def SeenA (dead : Tok → Bool) (s : List (Tok × Tok)) : Prop :=
  (∀ t, oldTok s .A = some t → t = .A ∧ dead .A = false ∧ newTok0 s .A = some .A) ∧ (∀ t, newTok0 s .A = some t → oldTok s .A = some .A) ∧ ∀ v i, oldTok s (.S v i) = none

theorem SeenA.nil {dead : Tok → Bool} : SeenA dead [] := ⟨fun _ h => (by cases h), fun _ h => (by cases h), fun _ _ => rfl⟩

theorem SeenA.cons {dead : Tok → Bool} {s : List (Tok × Tok)} {t nm : Tok} (h : SeenA dead s) (ht : t.isA = false) (hn : nm.isA = false) : SeenA dead ((t, nm) :: s) := by
  have h1 : oldTok ((t, nm) :: s) .A = oldTok s .A := by simp only [oldTok]; rw [if_neg (fun e => by rw [e] at hn; cases hn)]
  have h2 : newTok0 ((t, nm) :: s) .A = newTok0 s .A := by simp only [newTok0]; rw [if_neg (fun e => by rw [e] at ht; cases ht)]
  have h3 : ∀ v i, oldTok ((t, nm) :: s) (.S v i) = oldTok s (.S v i) := fun v i => by simp only [oldTok]; rw [if_neg (fun e => by rw [e] at hn; cases hn)]
  unfold SeenA
  simp only [h1, h2, h3]
  exact h

theorem passC1_seen {mine : Tok → Bool} {nm : Tok} {c : C U} {seen : List (Tok × Tok)} {dead : Tok → Bool} (hmine : ∀ t, mine t = true → dead t = false) (hn : nm.isA = false) (h : SeenA dead seen) : SeenA dead (passC1 mine nm c seen).2 := by
  unfold passC1
  split
  · split
    · rename_i hc
      simp only [Bool.and_eq_true, Bool.not_eq_true'] at hc
      exact h.cons hc.1.1.2 hn
    · exact h
  · rw [cond_eq_ite]
    split
    · rename_i hm
      split
      · split
        · exact ⟨fun t ht => (by simp [oldTok] at ht; exact ⟨ht.symm, hmine _ hm, by simp [newTok0]⟩), fun t ht => (by simp [oldTok]), fun v i => by simp [oldTok, h.2.2]⟩
        · exact h
      · split <;> exact h
    · exact h
  · split
    · rename_i hc
      simp only [Bool.and_eq_true, Bool.not_eq_true'] at hc
      exact h.cons hc.1.1.2 hn
    · exact h
  · exact h
  · exact h

theorem passC_seen {mine : Tok → Bool} {nm : Nat → Tok} {dead : Tok → Bool} (hmine : ∀ t, mine t = true → dead t = false) (hn : ∀ j, (nm j).isA = false) : ∀ (cs : List (C U)) (j : Nat) (seen : List (Tok × Tok)), SeenA dead seen → SeenA dead (passC mine nm j cs seen).2
  | [], _, _, h => h
  | _ :: cs, j, _, h => passC_seen hmine hn cs (j + 1) _ (passC1_seen hmine (hn j) h)

theorem normC_seen {mine : Tok → Bool} {nm : Tok} {k : Sk U} {c : C U} {seen : List (Tok × Tok)} {dead : Tok → Bool} (hmine : ∀ t, mine t = true → dead t = false) (hn : nm.isA = false) (h : SeenA dead seen) : SeenA dead (normC mine nm k c seen).2 := by
  unfold normC
  split <;> first | exact h | exact passC1_seen hmine hn h

theorem normL_seen {mine : Tok → Bool} {nm : Nat → Tok} {dead : Tok → Bool} (hmine : ∀ t, mine t = true → dead t = false) (hn : ∀ j, (nm j).isA = false) : ∀ (cs : List (C U)) (j : Nat) (ks : List (Sk U)) (seen : List (Tok × Tok)), SeenA dead seen → SeenA dead (normL mine nm j ks cs seen).2
  | [], _, _, _, h => h
  | _ :: cs, j, ks, _, h => normL_seen hmine hn cs (j + 1) ks.tail _ (normC_seen hmine (hn j) h)

theorem normV_seen {mine : Tok → Bool} {nm : Nat → Tok} {keep : Name → Bool} {ks : List (Sk U)} {v : V U} {seen : List (Tok × Tok)} {dead : Tok → Bool} (hmine : ∀ t, mine t = true → dead t = false) (hn : ∀ j, (nm j).isA = false) (h : SeenA dead seen) : SeenA dead (normV mine nm keep ks v seen).2 := by
  unfold normV
  split
  · exact normC_seen hmine (hn 0) h
  · exact normL_seen hmine hn _ _ _ _ h
  · exact h
  · exact passC_seen (mine := fun _ => false) (fun t ht => by cases ht) hn _ _ _ h
  all_goals exact h

theorem normEnv_seen {keep : Name → Bool} : ∀ (lv : List (Nat × List (Sk U))) (seen : List (Tok × Tok)), SeenA st.dead seen → SeenA st.dead (normEnv st keep lv seen).2
  | [], _, h => h
  | (k, ks) :: lv, seen, h => normEnv_seen lv _ (normV_seen (fun t ht => by simpa using ht) (fun _ => rfl) h)

theorem normMem_seen : ∀ (lm : List (Name × List (Sk U))) (seen : List (Tok × Tok)), SeenA st.dead seen → SeenA st.dead (normMem st lm seen).2
  | [], _, h => h
  | (n0, ks) :: lm, seen, h => by
    cases hm : st.mem n0 with
    | none => simp only [normMem, hm]; exact normMem_seen lm seen h
    | some cs =>
      simp only [normMem, hm]
      exact normMem_seen lm _ (normL_seen (fun t ht => by simpa using ht) (fun j => by cases n0 <;> rfl) _ _ _ _ h)

def Gh.anew (g : Gh) (s : List (Tok × Tok)) (keep : Name → Bool) (okT : Tok → Bool) (n : Option Nat) (kb : Bool) : Gh :=
  { m := g.m
    tag := fun c => match g.tag c with
      | some (.tok t) => (newTok s t).map .tok
      | some (.obj nm) => bif keep nm then some (.obj nm) else none
      | some (.outer t) => some (.outer t)
      | none => none
    ad := g.ad
    bs := fun t => bif t.isA then (match n with
      | some n => bsNew g s n t
      | none => bif kb then g.bs t else none) else bif okT t then bsNew g s 0 t else none }

theorem Gh.anew_ren (s : List (Tok × Tok)) (keep : Name → Bool) (okT : Tok → Bool) {n : Option Nat} {kb : Bool} (hs : ∀ t, okT t = true → t ≠ .A → (∃ v i, t = .S v i) → False) (hA : n = none → ∀ t v, oldTok s .A = some t → g.bs t = some v → (bif kb then g.bs .A else none) = some v) : RenA okT g s (g.anew s keep okT n kb) := by
  refine ⟨⟨rfl, fun c t t' h1 h2 => by simp only [Gh.anew, h1, h2, Option.map_some], fun t t' v h1 h2 h3 => ?_⟩, fun _ => rfl⟩
  cases t with
  | A =>
    simp only [Gh.anew, Tok.isA, cond_true]
    cases n with
    | none => exact hA rfl t' v h2 h3
    | some n => simp only [bsNew, h2]; exact h3
  | S v i => exact (hs _ h1 (by simp) ⟨v, i, rfl⟩).elim
  | _ => simp only [Gh.anew, Tok.isA, cond_false, h1, cond_true, bsNew, h2]; exact h3

theorem normV_ok {mine : Tok → Bool} {nm : Nat → Tok} {keep live live2 : Name → Bool} (hmine : ∀ t, mine t = true → st.dead t = false) (hok : ∀ j, notR (nm j) = true) {n : Option Nat} {kb : Bool} (hkeep : ∀ n, keep n = true → live2 n = true) (ks : List (Sk U)) (x : V U) (seen : List (Tok × Tok)) :
    Ext seen (normV mine nm keep ks x seen).2 ∧ ∀ s', Ext (normV mine nm keep ks x seen).2 s' → RenA notR g s' (g.anew s' keep notR n kb) → ∀ v, RelV cfg g st.dead live v x → RelV cfg (g.anew s' keep notR n kb) alive live2 v (normV mine nm keep ks x seen).1 := by
  cases x with
  | c x =>
    obtain ⟨h1, h2⟩ := normC_gen (cfg := cfg) (g := g) (nm := nm 0) (k := sk0 ks) (c := x) (seen := seen) hmine (hok 0) rfl
    exact ⟨h1, fun s' hs hsn v hr => h2 s' hs _ hsn v hr⟩
  | agg cs =>
    obtain ⟨h3, h4, h5⟩ := normL_gen (cfg := cfg) (g := g) (mine := mine) (nm := nm) hmine hok rfl cs 0 ks seen
    refine ⟨h3, fun s' hs hsn v hr => ?_⟩
    obtain ⟨vs, rfl, hl, hh⟩ := hr
    refine ⟨vs, rfl, by omega, fun j u c hu hc => ?_⟩
    have hj : j < cs.length := by have := (List.getElem?_eq_some_iff.1 hc).1; omega
    exact h5 s' hs _ hsn j u _ c (List.getElem?_eq_getElem hj) hc (hh j u _ hu (List.getElem?_eq_getElem hj))
  | ptr n off =>
    refine ⟨.refl _, fun s' hs hsn v hr => ?_⟩
    simp only [normV]
    cases hk : keep n with
    | true => exact ⟨by grind, hr.2⟩
    | false => exact trivial
  | ap n off k len i => exact ⟨.refl _, fun s' _ _ v hr => trivial⟩
  | ep cs =>
    have hm0 : ∀ t, (fun _ : Tok => false) t = true → st.dead t = false := fun t h => by cases h
    obtain ⟨h3, h4, h5⟩ := passC_gen (cfg := cfg) (g := g) (mine := fun _ => false) (nm := nm) hm0 hok rfl cs 0 seen
    refine ⟨h3, fun s' hs hsn v hr => ?_⟩
    obtain ⟨b, rfl, hh⟩ := hr
    refine ⟨b, rfl, fun j c hc => ?_⟩
    have hj : j < cs.length := by have := (List.getElem?_eq_some_iff.1 hc).1; rw [h4] at this; exact this
    obtain ⟨u, h6, h7⟩ := hh j _ (List.getElem?_eq_getElem hj)
    exact ⟨u, h6, h5 s' hs _ hsn.toRen j u _ c (List.getElem?_eq_getElem hj) hc h7⟩
  | fn f => exact ⟨.refl _, fun s' _ _ v hr => hr⟩
  | mp t n off => exact ⟨.refl _, fun s' _ _ v hr => trivial⟩
  | vw t n => exact ⟨.refl _, fun s' _ _ v hr => trivial⟩
  | clo f nms =>
    refine ⟨.refl _, fun s' _ _ v hr => ?_⟩
    simp only [normV]
    cases hk : nms.all keep with
    | true => exact ⟨fun nm hn => by grind, hr.2⟩
    | false => exact trivial
  | nb p q => exact ⟨.refl _, fun s' _ _ v hr => hr⟩
  | ar v k => exact ⟨.refl _, fun s' _ _ v hr => trivial⟩
  | tup vs => exact ⟨.refl _, fun s' _ _ v hr => trivial⟩
  | gd b v => exact ⟨.refl _, fun s' _ _ v hr => trivial⟩
  | junk => exact ⟨.refl _, fun s' _ _ v hr => trivial⟩

theorem normEnv_ok {keep live2 : Name → Bool} {n : Option Nat} {kb : Bool} (hkeep : ∀ n, keep n = true → live2 n = true) (h : Rel cfg B st g a w) : ∀ (lv : List (Nat × List (Sk U))) (seen : List (Tok × Tok)),
    Ext seen (normEnv st keep lv seen).2 ∧ ∀ s', Ext (normEnv st keep lv seen).2 s' → RenA notR g s' (g.anew s' keep notR n kb) → ∀ k, RelV cfg (g.anew s' keep notR n kb) alive live2 (a.tmps.getD k undef) (look (normEnv st keep lv seen).1 k)
  | [], seen => ⟨.refl _, fun s' _ _ k => trivial⟩
  | (k0, ks) :: lv, seen => by
    have hmine : ∀ t, (fun t => !st.dead t) t = true → st.dead t = false := fun t ht => by simpa using ht
    obtain ⟨h1, h2⟩ := normV_ok (cfg := cfg) (g := g) (st := st) (nm := .e k0) (keep := keep) (live := fun nm => (st.mem nm).isSome) (live2 := live2) (n := n) (kb := kb) hmine (fun _ => rfl) hkeep ks (st.env k0) seen
    obtain ⟨h3, h4⟩ := normEnv_ok (n := n) (kb := kb) hkeep h lv (normV (fun t => !st.dead t) (.e k0) keep ks (st.env k0) seen).2
    refine ⟨h1.trans h3, fun s' hs hsn k => ?_⟩
    simp only [normEnv, look]
    cases hk : Nat.beq k0 k with
    | true =>
      have := Nat.eq_of_beq_eq_true hk
      subst this
      exact h2 s' (h3.trans hs) hsn _ (h.env k0)
    | false => exact h4 s' hs hsn k

theorem normMem_ok {keep : Name → Bool} {n : Option Nat} {kb : Bool} (h : Rel cfg B st g a w) : ∀ (lm : List (Name × List (Sk U))) (seen : List (Tok × Tok)), (∀ n ∈ lm, (st.mem n.1).isSome = true → keep n.1 = true) →
    Ext seen (normMem st lm seen).2 ∧ ∀ s', Ext (normMem st lm seen).2 s' → RenA notR g s' (g.anew s' keep notR n kb) → ∀ nm cs, lookM (normMem st lm seen).1 nm = some cs → ∀ j c, cs[j]? = some c →
      ∃ v, w.cell? ((g.ad nm).add j) = some v ∧ (g.anew s' keep notR n kb).tag ((g.ad nm).add j) = some (.obj nm) ∧ RelC cfg (g.anew s' keep notR n kb) alive v c
  | [], seen, _ => ⟨.refl _, fun s' _ _ nm cs hn => by trivial⟩
  | (n0, ks) :: lm, seen, hk => by
    have hmine : ∀ t, (fun t => !st.dead t) t = true → st.dead t = false := fun t ht => by simpa using ht
    cases hm : st.mem n0 with
    | none =>
      simp only [normMem, hm]
      exact normMem_ok h lm seen (fun n hn => hk n (by simp [hn]))
    | some cs0 =>
      obtain ⟨h3, h4, h5⟩ := normL_gen (cfg := cfg) (g := g) (mine := fun t => !st.dead t) (nm := tokAt n0) hmine (okT := notR) (fun j => by cases n0 <;> rfl) rfl cs0 0 ks seen
      obtain ⟨h6, h7⟩ := normMem_ok (n := n) (kb := kb) h lm (normL (fun t => !st.dead t) (tokAt n0) 0 ks cs0 seen).2 (fun n hn => hk n (by simp [hn]))
      simp only [normMem, hm]
      refine ⟨h3.trans h6, fun s' hs hsn nm cs hn j c hc => ?_⟩
      simp only [lookM] at hn
      split at hn
      · rename_i e
        subst e
        cases hn
        have hj : j < cs0.length := by have := (List.getElem?_eq_some_iff.1 hc).1; omega
        obtain ⟨v, h8, h9, h10⟩ := h.mem n0 cs0 hm j _ (List.getElem?_eq_getElem hj)
        refine ⟨v, h8, ?_, h5 s' (h6.trans hs) _ hsn j v _ c (List.getElem?_eq_getElem hj) hc h10⟩
        have hkn := hk (n0, ks) (by simp) (by simp [hm])
        simp only [Gh.anew, h9, hkn, cond_true]
      grind

theorem lookM_norm : ∀ (lm : List (Name × List (Sk U))) (seen : List (Tok × Tok)) (nm : Name), (memListS lm nm && (st.mem nm).isSome) = true → (lookM (normMem st lm seen).1 nm).isSome = true
  | [], seen, nm, h => by trivial
  | (n0, ks) :: lm, seen, nm, h => by
    simp only [Bool.and_eq_true] at h
    cases hm : st.mem n0 with
    | none =>
      simp only [normMem, hm]
      refine lookM_norm lm seen nm ?_
      simp only [Bool.and_eq_true]
      refine ⟨?_, h.2⟩
      have h1 := h.1
      simp only [memListS] at h1
      grind
    | some cs0 =>
      simp only [normMem, hm, lookM]
      split
      · rfl
      · rename_i e
        refine lookM_norm lm _ nm ?_
        simp only [Bool.and_eq_true]
        refine ⟨?_, h.2⟩
        have h1 := h.1
        simp only [memListS] at h1
        grind

theorem memListS_mem : ∀ {l : List (Name × List (Sk U))} {x : Name × List (Sk U)}, x ∈ l → memListS l x.1 = true
  | (a, ks) :: r, x, h => by
    simp only [memListS]
    split
    · rfl
    · rename_i e
      rcases List.mem_cons.1 h with rfl | h
      · grind
      · exact memListS_mem h

theorem norm_ok (h : Rel cfg B st g a w) (lv : List (Nat × List (Sk U))) (lm : List (Name × List (Sk U))) : ∃ g', Rel cfg B ((norm lv lm st).toF st.n) g' a w := by
  let keep : Name → Bool := fun nm => memListS lm nm && (st.mem nm).isSome
  let live2 : Name → Bool := fun nm => (lookM (norm lv lm st).mem nm).isSome
  have hk2 : ∀ n, keep n = true → live2 n = true := fun n hn => lookM_norm lm _ n hn
  let s := (normMem st lm (normEnv st keep lv []).2).2
  have hsA : SeenA st.dead s := normMem_seen lm _ (normEnv_seen lv [] .nil)
  obtain ⟨n, hn0⟩ : ∃ n : Option Nat, n = match oldTok s .A with
    | some _ => (st.ls .A).map (·.f)
    | none => none := ⟨_, rfl⟩
  let kb : Bool := B.ab.isSome
  have hnn : n = none → ∀ t, oldTok s .A = some t → st.ls .A = none := by
    intro hn t ht
    rw [hn0] at hn
    simp only [ht] at hn
    simpa using hn
  have hR : RenA notR g s (g.anew s keep notR n kb) := by
    refine Gh.anew_ren s keep notR (fun t ht _ ⟨v, i, e⟩ => by subst e; cases ht) fun hn t v ht hv => ?_
    obtain ⟨rfl, hd, _⟩ := hsA.1 t ht
    have hl := hnn hn _ ht
    cases hB : B.ab with
    | none =>
      have := h.fresh .A (by rw [hB]; rfl) hl hd
      rw [hv] at this; cases this
    | some b => simp only [kb, hB, Option.isSome_some, cond_true]; exact hv
  obtain ⟨h1, h2⟩ := normEnv_ok (keep := keep) (n := n) (kb := kb) hk2 h lv []
  obtain ⟨h3, h4⟩ := normMem_ok (keep := keep) (n := n) (kb := kb) h lm (normEnv st keep lv []).2 (fun n hn hs => by simp only [keep, memListS_mem hn, hs, Bool.and_self])
  have htag0 : ∀ c, g.tag c = none → (g.anew s keep notR n kb).tag c = none := fun c hc => by simp only [Gh.anew, hc]
  have htago : ∀ c t, g.tag c = some (.outer t) ↔ (g.anew s keep notR n kb).tag c = some (.outer t) := by
    intro c t
    simp only [Gh.anew]
    cases hg : g.tag c with
    | none => simp
    | some t0 =>
      cases t0 with
      | obj nm => grind
      | tok u => simp_all
      | outer t0 => simp
  refine ⟨g.anew s keep notR n kb, ⟨fun c v hv => ?_, fun c t ht => ?_⟩, ?_, ?_, ?_, h.sz, h.df, fun t x hx => ⟨rfl, ?_⟩, fun t ht hls _ => ?_⟩
  · obtain ⟨h5, h6⟩ := h.inv.im c v hv
    grind
  · cases hg : g.tag c with
    | none => grind
    | some t0 => exact h.inv.it c t0 hg
  · refine h.fr.step h.inv (Evo.refl w (fun _ => False)) (fun c hc => hc.elim) (fun _ _ hv => hv) (fun c t => htago c t) ?_ (fun _ => rfl) (fun v hB hv => ?_)
    · intro b _ hall o sp
      cases hg : g.tag ⟨b, o, sp⟩ with
      | none => grind
      | some t =>
        grind
    · simp only [Gh.anew, Tok.isA, cond_true]
      cases hn : n with
      | none => simp only [kb, hB, Option.isSome_some, cond_true]; exact hv
      | some m =>
        cases ho : oldTok s .A with
        | none => rw [hn0, ho] at hn; cases hn
        | some t =>
          obtain ⟨rfl, _⟩ := hsA.1 t ho
          simp only [bsNew, ho]; exact hv
  · intro k
    exact h2 s h3 hR k
  · intro nm cs hn j c hc
    exact h4 s (.refl _) hR nm cs hn j c hc
  · have hx' : lsSet (fun _ => none) (normLs st.ls s (candsA s (cands lv lm))) t = some x := by
      have hx0 : lsSet (fun _ => none) (match candsA s (cands lv lm) with
        | [] => []
        | c => normLs st.ls s c) t = some x := hx
      cases hc : candsA s (cands lv lm) with
      | nil => rw [hc] at hx0; cases hx0
      | cons a b => grind
    obtain ⟨u, y, h5, h6, h7, rfl, h8, h9, h10⟩ := normLs_spec _ hx'
    obtain ⟨_, hL⟩ := h.ls u y h7
    rcases hL with ⟨hT, hu, hL⟩ | ⟨f0, hT, rfl, hL⟩
    case inr =>
      obtain rfl := h9 rfl
      have hn : n = some y.f := by rw [hn0]; simp only [h5, h7, Option.map_some]
      refine .inr ⟨f0, hT, rfl, ARel.shift (fun t c ht hc => ?_) ?_ (fun k i => ?_) hL⟩
      · have h11 : newTok s t = some t := by
          cases t with
          | A => exact h6
          | S v i =>
            have : newTok0 s .A = some .A := h6
            simp [newTok, this]
          | _ => cases ht
        simp only [Gh.anew, hc, h11, Option.map_some]
      · simp only [Gh.anew, Tok.isA, cond_true, hn, bsNew, h5]
      · have : newTok0 s .A = some .A := h6
        simp only [Gh.anew, Tok.isA, cond_true, hn, bsNew, this, LC.at0]
        rw [show 0 + 1 + k = k + 1 by omega]
        simp only
        rw [show k + 1 + y.f = y.f + 1 + k by omega]
    have ht := h10 hu
    have hbs : (g.anew s keep notR n kb).bs t = g.bs u := by
      have hnr : notR t = true := by
        simp only [notR, h8, Bool.not_false, Bool.true_and]
        cases t <;> first | rfl | cases ht
      have h12 : bsNew g s 0 t = g.bs u := by
        unfold bsNew
        split
        · cases ht
        · rw [h5]
      simp only [Gh.anew, ht, cond_false, hnr, cond_true, h12]
    have e0 : y.at0 t = y := by simp only [LC.at0, ht, cond_false]
    rw [e0]
    refine .inl ⟨hT, ht, ?_⟩
    have htg : ∀ c, g.tag c = some (.tok u) → (g.anew s keep notR n kb).tag c = some (.tok t) := fun c hc => by simp only [Gh.anew, hc, h6, Option.map_some]
    rcases hL with ⟨e1, e2⟩ | ⟨b, len, cap, e1, e2, e3, e4, e5, e6⟩
    · exact .inl ⟨hbs.trans e1, e2⟩
    · refine .inr ⟨b, len, cap, hbs.trans e1, e2, e3, e4, fun i y hy j c hc => ?_, fun j a1 a2 => htg _ (e6 j a1 a2)⟩
      obtain ⟨v, e7, e8, e9, e10⟩ := e5 i y hy j c hc
      exact ⟨v, e7, e8, e9, fun hi => htg _ (e10 hi)⟩
  · cases hA : t.isA with
    | false =>
      have hr : t.isR = true := by rw [hA] at ht; simpa using ht
      simp only [Gh.anew, hA, cond_false, notR, hr, Bool.not_true, Bool.false_and]
    | true =>
      have hr : t.isR = false := by cases t <;> first | rfl | cases hA
      have hB : B.ab = none := by rw [hr, hA] at ht; simpa using ht
      have hroot : t.root = .A := by cases t <;> first | rfl | cases hA
      rw [hroot] at hls
      simp only [Gh.anew, hA, cond_true]
      have hn : n = none := by
        cases hn : n with
        | none => rfl
        | some m =>
          exfalso
          cases ho : oldTok s .A with
          | none => rw [hn0, ho] at hn; cases hn
          | some t1 =>
            obtain ⟨rfl, _, h11⟩ := hsA.1 t1 ho
            cases hl : st.ls .A with
            | none => rw [hn0, ho, hl] at hn; cases hn
            | some y =>
              have hls' : lsSet (fun _ => none) (match candsA s (cands lv lm) with
                | [] => []
                | c => normLs st.ls s c) .A = none := hls
              have hc : candsA s (cands lv lm) = .A :: cands lv lm := by simp only [candsA, ho, Option.isSome_some, cond_true]
              rw [hc] at hls'
              simp only [normLs, ho, newTok, h11, hl] at hls'
              simp [Tok.isR, Tok.isA, lsSet] at hls'
      rw [hn]
      simp only [kb, hB, Option.isSome_none, cond_false]

theorem prom1_ok (h : Rel cfg B st g a w) (k : Nat) (T : U.Ty) : ∃ g', Rel cfg B (st.prom1 cfg k T) g' a w := by
  unfold FSt.prom1
  split
  case h_2 => grind
  rename_i hk
  split
  case isFalse => grind
  rename_i hc
  simp only [Bool.and_eq_true, Option.isNone_iff_eq_none, Bool.not_eq_true'] at hc
  obtain ⟨hc, hTA⟩ := hc
  have hfree := h.fresh (.z (3 * k) 0) rfl hc.1 hc.2
  have hkeep : Keeps g (g.setBs (.z (3 * k) 0) (.slice none 0 0, cfg.sz T)) st.dead st.dead (fun nm => (st.mem nm).isSome) (fun nm => (st.mem nm).isSome) := (Keeps.refl g st.dead _).setBs hfree
  refine ⟨g.setBs (.z (3 * k) 0) (.slice none 0 0, cfg.sz T), h.inv, h.fr.setBs, fun i => ?_, fun nm cs hm j c hj => ?_, h.sz, h.df, fun t x hx => ?_, fun t ht h1 h2 => ?_⟩
  · simp only
    cases hi : Nat.beq i k with
    | true =>
      have e := Nat.eq_of_beq_eq_true hi
      subst e
      have hr := h.env i
      rw [hk] at hr
      have h1 : SimC cfg g.m (a.tmps.getD i undef) .nils := hr.1
      have hv : a.tmps.getD i undef = .slice none 0 0 := by
        generalize a.tmps.getD i undef = v at h1
        cases h1
        rfl
      rw [hv]
      exact ⟨.mref _ _ ⟨rfl, rfl⟩, fun _ => ⟨cfg.sz T, by simp [Gh.setBs]⟩⟩
    | false => exact (h.env i).keep hkeep
  · obtain ⟨v, h1, h2, h3⟩ := h.mem nm cs hm j c hj
    exact ⟨v, h1, h2, h3.keep hkeep⟩
  · simp only at hx
    split at hx
    · rename_i e
      subst e
      cases hx
      exact ⟨hc.2, .inl ⟨hTA, rfl, .inl ⟨by simp [Gh.setBs], rfl, rfl⟩⟩⟩
    · obtain ⟨h1, h2⟩ := h.ls t x hx
      exact ⟨h1, h2.keep hkeep h1 (fun c v hv => (h.inv.im c v hv).1) (fun _ _ _ _ => rfl) (fun _ u hA hu => by simp only [Gh.setBs]; rw [if_neg (fun e => by subst e; cases hA)]; exact hu) (fun _ _ _ _ h => h)⟩
  · simp only at h1
    split at h1
    · cases h1
    · rename_i hne
      simp only [Gh.setBs]
      rw [if_neg (fun e => hne (by rw [e]; rfl))]
      exact h.fresh t ht h1 h2

theorem promM_ok (h : Rel cfg B st g a w) (nm : Name) (j0 : Nat) (T : U.Ty) : ∃ g', Rel cfg B (st.promM cfg nm j0 T) g' a w := by
  unfold FSt.promM
  split
  case h_2 => grind
  rename_i cs hcs
  split
  case h_2 => grind
  rename_i hj0
  split
  case isFalse => grind
  rename_i hc
  simp only [Bool.and_eq_true, Option.isNone_iff_eq_none, Bool.not_eq_true'] at hc
  obtain ⟨hc, hTA⟩ := hc
  have hfree := h.fresh (.z (nameZ nm) j0) rfl hc.1 hc.2
  have hkeep : Keeps g (g.setBs (.z (nameZ nm) j0) (.slice none 0 0, cfg.sz T)) st.dead st.dead (fun nm => (st.mem nm).isSome) (fun nm => (st.mem nm).isSome) := (Keeps.refl g st.dead _).setBs hfree
  have hl : (fun n => (if n = nm then some (cs.set j0 (.mref (.z (nameZ nm) j0))) else st.mem n : Option (List (C U))).isSome) = fun n => (st.mem n).isSome := by
    funext n
    by_cases e : n = nm
    · subst e; simp [hcs]
    · simp [e]
  refine ⟨g.setBs (.z (nameZ nm) j0) (.slice none 0 0, cfg.sz T), h.inv, h.fr.setBs, fun i => ?_, fun n cs' hm j c hj => ?_, h.sz, h.df, fun t x hx => ?_, fun t ht h1 h2 => ?_⟩
  · simp only [hl]
    exact (h.env i).keep hkeep
  · simp only at hm
    split at hm
    · rename_i e
      subst e
      cases hm
      by_cases e : j = j0
      · subst e
        have hlt := (List.getElem?_eq_some_iff.1 hj0).1
        rw [List.getElem?_set] at hj
        simp only [if_true, hlt] at hj
        cases hj
        obtain ⟨v, h1, h2, h3⟩ := h.mem n cs hcs j _ hj0
        have hv : v = .slice none 0 0 := by
          have h4 := h3.1
          cases h4
          rfl
        subst hv
        exact ⟨_, h1, h2, .mref _ _ ⟨rfl, rfl⟩, fun _ => ⟨cfg.sz T, by simp [Gh.setBs]⟩⟩
      · rw [List.getElem?_set_ne (Ne.symm e)] at hj
        obtain ⟨v, h1, h2, h3⟩ := h.mem n cs hcs j c hj
        exact ⟨v, h1, h2, h3.keep hkeep⟩
    · obtain ⟨v, h1, h2, h3⟩ := h.mem n cs' hm j c hj
      exact ⟨v, h1, h2, h3.keep hkeep⟩
  · simp only at hx
    split at hx
    · rename_i e
      subst e
      cases hx
      exact ⟨hc.2, .inl ⟨hTA, rfl, .inl ⟨by simp [Gh.setBs], rfl, rfl⟩⟩⟩
    · obtain ⟨h1, h2⟩ := h.ls t x hx
      exact ⟨h1, h2.keep hkeep h1 (fun c v hv => (h.inv.im c v hv).1) (fun _ _ _ _ => rfl) (fun _ u hA hu => by simp only [Gh.setBs]; rw [if_neg (fun e => by subst e; cases hA)]; exact hu) (fun _ _ _ _ h => h)⟩
  · simp only at h1
    split at h1
    · cases h1
    · rename_i hne
      simp only [Gh.setBs]
      rw [if_neg (fun e => hne (by rw [e]; rfl))]
      exact h.fresh t ht h1 h2

theorem prom_ok : ∀ (lv : List ((Nat ⊕ (Name × Nat)) × U.Ty)) {st : FSt U} {g : Gh}, Rel cfg B st g a w → ∃ g', Rel cfg B (st.prom cfg lv) g' a w
  | [], st, g, h => ⟨g, h⟩
  | (.inl k, T) :: r, st, g, h => by
    obtain ⟨g1, h1⟩ := prom1_ok h k T
    exact prom_ok r h1
  | (.inr x, T) :: r, st, g, h => by
    obtain ⟨g1, h1⟩ := promM_ok h x.1 x.2 T
    exact prom_ok r h1

theorem prom_n : ∀ (lv : List ((Nat ⊕ (Name × Nat)) × U.Ty)) (st : FSt U), (st.prom cfg lv).n = st.n
  | [], st => rfl
  | (.inl k, T) :: r, st => by
    show ((st.prom1 cfg k T).prom cfg r).n = st.n
    rw [prom_n r]
    unfold FSt.prom1
    grind
  | (.inr x, T) :: r, st => by
    show ((st.promM cfg x.1 x.2 T).prom cfg r).n = st.n
    rw [prom_n r]
    unfold FSt.promM
    grind

theorem settle_ok (ok : CfgOk P cfg) (h : Rel cfg B st g a w) (lv : List (Nat × List (Sk U))) (lm : List (Name × List (Sk U))) : ∃ g', Rel cfg B (settle cfg lv lm st id) g' a w := by
  have key : ∀ {st : FSt U} {g : Gh}, Rel cfg B st g a w → ∃ g', Rel cfg B (onShut cfg st (fun st => onFrz cfg st id (normNeed lv lm st)) (pts lv)) g' a w := by
    intro st g h
    rw [onShut_eq]
    obtain ⟨g1, h1⟩ := onShut_ok ok h (pts lv)
    generalize onShut cfg st id (pts lv) = st1 at h1 ⊢
    cases hn : normNeed lv lm st1 with
    | nil => exact ⟨g1, h1⟩
    | cons t r => exact frz_ok ok (t :: r) h1
  unfold settle
  cases hw : wrs lm lv with
  | nil => exact key h
  | cons x r =>
    obtain ⟨g1, h1⟩ := prom_ok (x :: r) h
    exact key h1

theorem settle_n (lv : List (Nat × List (Sk U))) (lm : List (Name × List (Sk U))) : (settle cfg lv lm st id).n = st.n := by
  have key : ∀ (st : FSt U), (onShut cfg st (fun st => onFrz cfg st id (normNeed lv lm st)) (pts lv)).n = st.n := by
    intro st
    rw [onShut_eq]
    have h1 := onShut_n (cfg := cfg) (st := st) (pts lv)
    generalize onShut cfg st id (pts lv) = st1 at h1 ⊢
    cases hn : normNeed lv lm st1 with
    | nil => exact h1
    | cons t r => exact (frz_n _ st1).trans h1
  unfold settle
  cases hw : wrs lm lv with
  | nil => exact key st
  | cons x r => exact (key _).trans (prom_n _ st)

theorem settle_eq {α : Type} (lv : List (Nat × List (Sk U))) (lm : List (Name × List (Sk U))) (k : FSt U → α) : settle cfg lv lm st k = k (settle cfg lv lm st id) := by
  unfold settle
  generalize wrs lm lv = ws
  have key : ∀ st : FSt U, onShut cfg st (fun st => onFrz cfg st k (normNeed lv lm st)) (pts lv) = k (onShut cfg st (fun st => onFrz cfg st id (normNeed lv lm st)) (pts lv)) := by
    intro st
    rw [onShut_eq, onShut_eq st (fun st => onFrz cfg st id (normNeed lv lm st))]
    exact onFrz_eq _ _ _
  cases ws <;> exact key _


inductive AExit where
  | normal | exit (id : Nat) | ret

def AExit.up : AExit → Exit
  | .normal => .normal
  | .exit id => .exit id
  | .ret => .ret

abbrev Lives (U : Uni) := Nat → List (Nat × List (Sk U)) × List (Name × List (Sk U))

def AExit.then {U : Uni} (K : LSt U → Prop) (Q : AExit → LSt U → Prop) : AExit → LSt U → Prop
  | .normal, s => K s
  | e, s => Q e s

def AExit.inBlock {U : Uni} (id : Nat) (Q : AExit → LSt U → Prop) : AExit → LSt U → Prop
  | .exit id', s => if id' = id then Q .normal s else Q (.exit id') s
  | e, s => Q e s

def LoopWp {U : Uni} (body : LSt U → (AExit → LSt U → Prop) → Prop) (s : LSt U) (Q : AExit → LSt U → Prop) : Prop :=
  ∃ (I : Nat → LSt U → Prop) (n : Nat), I n s ∧ ∀ k s', I k s' → body s' (AExit.then (fun s2 => ∃ j, j < k ∧ I j s2) Q)

def needQ : List Prop → Prop → Prop
  | [], q => q
  | p :: r, q => p ∧ needQ r q

theorem needQ_all : ∀ {ps : List Prop} {q : Prop}, needQ ps q → All ps ∧ q
  | [], _, h => ⟨trivial, h⟩
  | _ :: _, _, h => ⟨⟨h.1, (needQ_all h.2).1⟩, (needQ_all h.2).2⟩

def mkL (Γ : Known U) (o : Oper) : Bool :=
  match o.op with
  | .call c => match c.callee with
    | .value (.func f) => match Γ f with
      | some s => s.mkl
      | none => false
    | _ => false
  | _ => false

def isZ (o : Oper) : Bool :=
  match o.op with
  | .call c => match c.callee, c.argTypes.toList with
    | .builtin .append, [t, t'] => t != t'
    | _, _ => false
  | _ => false

def hasL (Γ : Known U) (s : LSt U) (ops : List Oper) (l : List (Nat × List (Sk U)) × List (Name × List (Sk U))) : Bool :=
  Γ.ml || !s.ls.isEmpty || (ops.any fun o => isIdx ops o || mkL Γ o || isZ o) || !(wrs l.2 l.1).isEmpty || !(pts l.1).isEmpty

def onSettle {α : Type} (cfg : Cfg U) (li : Bool) (l : List (Nat × List (Sk U)) × List (Name × List (Sk U))) (st : FSt U) (k : FSt U → α) : α :=
  bif li then settle cfg l.1 l.2 st k else k st

def RegWp (cfg : Cfg U) (li : Bool) (r : Option (List Prop × FSt U)) (l : List (Nat × List (Sk U)) × List (Name × List (Sk U))) (Q : AExit → LSt U → Prop) : Prop :=
  match r with
  | some (ps, st) => onSettle cfg li l st (fun st => needQ ps (Q .normal (norm l.1 l.2 st)))
  | none => False

theorem onSettle_eq {α : Type} (li : Bool) (l : List (Nat × List (Sk U)) × List (Name × List (Sk U))) (k : FSt U → α) : onSettle cfg li l st k = k (onSettle cfg li l st id) := by
  cases li
  · rfl
  · exact settle_eq _ _ _

theorem onSettle_ok (ok : CfgOk P cfg) (h : Rel cfg B st g a w) (li : Bool) (l : List (Nat × List (Sk U)) × List (Name × List (Sk U))) : (∃ g', Rel cfg B (onSettle cfg li l st id) g' a w) ∧ (onSettle cfg li l st id).n = st.n := by
  cases li
  · exact ⟨⟨g, h⟩, rfl⟩
  · exact ⟨settle_ok ok h _ _, settle_n _ _⟩

def CondWp {U : Uni} (v : Option (V U)) (x y : Prop) : Prop :=
  match v with
  | some (.c (.bool b)) => (b = true → x) ∧ (b = false → y)
  | some (.nb p q) => (p → x) ∧ (q → y)
  | _ => False

def awp (cfg : Cfg U) (Γ : Known U) (draws : Array Oper → FSt U → Bool) (n : Nat) (lv : Lives U) : Code → LSt U → (AExit → LSt U → Prop) → Prop
  | .skip, s, Q => Q .normal s
  | .region id ops dr, s, Q => if (!dr || draws ops (s.toR n Γ.ml ops)) = true then RegWp cfg (hasL Γ s ops.toList (lv id)) (arun cfg Γ ops (!dr && hasL Γ s ops.toList (lv id)) ops.toList (s.toR n Γ.ml ops)) (lv id) Q else False
  | .seq x y, s, Q => awp cfg Γ draws n lv x s (AExit.then (fun s' => awp cfg Γ draws n lv y s' Q) Q)
  | .cond c x y, s, Q => CondWp ((s.toF n).opnd c) (awp cfg Γ draws n lv x s Q) (awp cfg Γ draws n lv y s Q)
  | .block id c, s, Q => awp cfg Γ draws n lv c s (AExit.inBlock id Q)
  | .loop c, s, Q => LoopWp (awp cfg Γ draws n lv c) s Q
  | .exit id, s, Q => Q (.exit id) s
  | .ret, s, Q => Q .ret s
  | _, _, _ => False

def DrawsOk (P : Program) (cfg : Cfg U) (Γ : Known U) (draws : Array Oper → FSt U → Bool) : Prop :=
  ∀ (B : Base), (Γ.na = true → B.ab = none) → ∀ (st st' : FSt U) (g : Gh) (a : Act) (w : World) (id : Nat) (ops : Array Oper) (ps : List Prop) (Q : Exit → Act → World → Prop), draws ops st = true → Rel cfg B st g a w →
    arun cfg Γ ops false ops.toList st = some (ps, st') → All ps → (∀ g' a' w', Rel cfg B st' g' a' w' → Q .normal a' w') → (Code.region id ops true).wp P Q a w

theorem awp_sound {Γ : Known U} {draws : Array Oper → FSt U → Bool} (ok : CfgOk P cfg) (hΓ : ∀ f s, Γ f = some s → Contract P cfg f s) (hna : Γ.na = true → B.ab = none) (hdr : DrawsOk P cfg Γ draws) {n : Nat} {lv : Lives U} : ∀ (c : Code) (s : LSt U) (Q : AExit → LSt U → Prop) (g : Gh) (a : Act) (w : World),
    awp cfg Γ draws n lv c s Q → Rel cfg B (s.toF n) g a w → c.wp P (fun e a' w' => ∃ e' s' g', e = AExit.up e' ∧ Q e' s' ∧ Rel cfg B (s'.toF n) g' a' w') a w := by
  intro c
  induction c with
  | skip => exact fun s Q g a w h hr => wp_skip ⟨.normal, s, g, rfl, h, hr⟩
  | region id ops dr =>
    intro s Q g a w h hr
    simp only [awp] at h
    split at h
    case isFalse => exact h.elim
    rename_i hd
    unfold RegWp at h
    split at h
    case h_2 => exact h.elim
    rename_i ps st' hrun
    rw [onSettle_eq] at h
    replace h := needQ_all h
    generalize hasL Γ s ops.toList (lv id) = li at *
    have fin : ∀ g' a' w', Rel cfg B st' g' a' w' → ∃ e' s' g', Exit.normal = AExit.up e' ∧ Q e' s' ∧ Rel cfg B (s'.toF n) g' a' w' := by
      intro g' a' w' hr'
      obtain ⟨⟨g1, h1⟩, hn1⟩ := onSettle_ok ok hr' li (lv id)
      obtain ⟨g2, h2⟩ := norm_ok h1 (lv id).1 (lv id).2
      have hn : st'.n = n := by
        have : ∀ (l : List Oper) (st st' : FSt U) (ps : List Prop), arun cfg Γ ops (!dr && li) l st = some (ps, st') → st'.n = st.n := by
          intro l
          induction l with
          | nil => intro st st' ps he; simp only [arun, Option.some.injEq, Prod.mk.injEq] at he; rw [he.2]
          | cons o l ih =>
            intro st st' ps he
            rw [arun_cons] at he
            split at he
            · cases he
            · split at he
              · cases he
              · rename_i h2
                simp only [Option.some.injEq, Prod.mk.injEq] at he
                obtain ⟨_, rfl⟩ := he
                rw [ih _ _ _ h2]
                have hp : ((st.pre cfg Γ (!dr && li) o).app o.dst ‹Eff U›).n = (st.pre cfg Γ (!dr && li) o).n := by cases o.dst <;> rfl
                rw [hp, pre_n]
        exact this _ _ _ _ hrun
      rw [hn1, hn] at h2
      exact ⟨.normal, _, g2, rfl, h.2, h2⟩
    cases dr with
    | false => exact wp_region_list (arun_sound ok hΓ hna ops.toList _ st' g a w ps (toR_rel hr) hrun h.1 fin)
    | true =>
      simp only [Bool.not_true, Bool.false_or] at hd
      exact hdr B hna _ st' g a w id ops ps _ hd (toR_rel hr) hrun h.1 fin
  | seq x y ihx ihy =>
    intro s Q g a w h hr
    simp only [awp] at h
    refine wp_seq (wp_mono (ihx s _ g a w h hr) ?_)
    rintro e a' w' ⟨e', s', g', rfl, hq, hr'⟩
    cases e' with
    | normal => exact ihy s' Q g' a' w' hq hr'
    | exit id => exact ⟨.exit id, s', g', rfl, hq, hr'⟩
    | ret => exact ⟨.ret, s', g', rfl, hq, hr'⟩
  | cond c x y ihx ihy =>
    intro s Q g a w h hr
    simp only [awp, CondWp] at h
    split at h
    case h_3 => exact h.elim
    case h_2 p q hb =>
      have hv : ∃ b, a.eval c = .bool b ∧ (b = true → p) ∧ (b = false → q) := by
        have hrel : RelV cfg g alive (fun nm => ((s.toF n).mem nm).isSome) (a.eval c) (.nb p q) := by
          cases c with
          | tmp t => simp only [FSt.opnd, Option.some.injEq] at hb; rw [← hb]; exact hr.env t
          | const c => exact ofConst_rel hb
          | func f => simp [FSt.opnd] at hb
          | global g => trivial
        exact hrel
      obtain ⟨b, hv, hp, hq⟩ := hv
      exact wp_cond_split hv (fun ht => ihx s Q g a w (h.1 (hp ht)) hr) (fun ht => ihy s Q g a w (h.2 (hq ht)) hr)
    rename_i b hb
    have hv : a.eval c = .bool b := by
      have hrel : RelV cfg g alive (fun nm => ((s.toF n).mem nm).isSome) (a.eval c) (.c (.bool b)) := by
        cases c with
        | tmp t => simp only [FSt.opnd, Option.some.injEq] at hb; rw [← hb]; exact hr.env t
        | const c => exact ofConst_rel hb
        | func f => simp [FSt.opnd] at hb
        | global g => trivial
      exact SimC.bool_eq hrel.1
    exact wp_cond_split hv (fun ht => ihx s Q g a w (h.1 ht) hr) (fun ht => ihy s Q g a w (h.2 ht) hr)
  | block id c ih =>
    intro s Q g a w h hr
    simp only [awp] at h
    refine wp_block (wp_mono (ih s _ g a w h hr) ?_)
    rintro e a' w' ⟨e', s', g', rfl, hq, hr'⟩
    cases e' with
    | normal => exact ⟨.normal, s', g', rfl, hq, hr'⟩
    | exit id' =>
      simp only [AExit.inBlock, AExit.up, Exit.inBlock] at *
      grind
    | ret => exact ⟨.ret, s', g', rfl, hq, hr'⟩
  | loop c ih =>
    intro s Q g a w h hr
    simp only [awp, LoopWp] at h
    obtain ⟨I, k, h0, h1⟩ := h
    refine wp_loop_ghost (fun k a w => ∃ s g, I k s ∧ Rel cfg B (s.toF n) g a w) k ⟨s, g, h0, hr⟩ ?_
    rintro k a w ⟨s, g, hI, hr⟩
    refine wp_mono (ih s _ g a w (h1 k s hI) hr) ?_
    rintro e a' w' ⟨e', s', g', rfl, hq, hr'⟩
    cases e' with
    | normal =>
      obtain ⟨j, hj, hI'⟩ := hq
      exact ⟨j, hj, s', g', hI', hr'⟩
    | exit id => exact ⟨.exit id, s', g', rfl, hq, hr'⟩
    | ret => exact ⟨.ret, s', g', rfl, hq, hr'⟩
  | exit id => exact fun s Q g a w h hr => wp_exit ⟨.exit id, s, g, rfl, h, hr⟩
  | ret => exact fun s Q g a w h hr => wp_ret ⟨.ret, s, g, rfl, h, hr⟩
  | _ => intro s Q g a w h; simp [awp] at h

def seqK (cfg : Cfg U) (Γ : Known U) (draws : Array Oper → FSt U → Bool) (n : Nat) (lv : Lives U) (y : Code) (Q : AExit → LSt U → Prop) : AExit → LSt U → Prop :=
  AExit.then (fun s' => awp cfg Γ draws n lv y s' Q) Q

theorem loop_rule {U : Uni} {ι : Type} (f : ι → LSt U) (I : ι → Prop) (μ : ι → Nat) {body : LSt U → (AExit → LSt U → Prop) → Prop} {s : LSt U} {Q : AExit → LSt U → Prop} (i0 : ι) (hs : s = f i0) (h0 : I i0)
    (hb : ∀ i, I i → body (f i) (AExit.then (fun s2 => ∃ j, s2 = f j ∧ I j ∧ μ j < μ i) Q)) : LoopWp body s Q := by
  refine ⟨fun k s => ∃ i, s = f i ∧ I i ∧ μ i = k, μ i0, ⟨i0, hs, h0, rfl⟩, ?_⟩
  grind

def sub : List Nat → Code → Code
  | [], c => c
  | 0 :: r, .seq a _ => sub r a
  | _ :: r, .seq _ b => sub r b
  | 0 :: r, .cond _ a _ => sub r a
  | _ :: r, .cond _ _ b => sub r b
  | _ :: r, .block _ c => sub r c
  | _ :: r, .loop c => sub r c
  | _, _ => .skip

def cd (f : Func) (path : List Nat) : Code := sub path (f.body.getD .skip)

attribute [irreducible] awp

end Go.AM
