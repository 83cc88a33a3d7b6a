import Derived.Test.YtcljdbpmjdgooaaEmL
set_option linter.unusedSimpArgs false
set_option linter.unusedVariables false
namespace Go.AM
variable {U : Uni} {P : Program} {cfg : Cfg U} {B : Base} {st : FSt U} {g : Gh} {a : Act} {w : World}

def readsDead (o : Oper) : Bool :=
  match o.op with
  | .call c => match c.callee with
    | .builtin .len => false
    | _ => true
  | .makeSlice _ _ _ => true
  | .buildSlice _ _ parts => constParts parts.toList
  | _ => false

structure Fp where
  touch : List Name
  writes : List Name
  kills : Bool
  touchT : List Tok
  writesT : List Tok
  allT : Bool
  core : Bool
  pend : Bool

def isArV : Option (V U) → Bool
  | some (.c (.mref .A)) => true
  | some (.ar _ _) => true
  | _ => false

def coreR (o : Oper) (st : FSt U) : Bool :=
  match o.guard with
  | some _ => false
  | none => match o.op with
    | .fieldAddr _ x _ => isArV (st.strip.opnd x)
    | .load _ x => isArV (st.strip.opnd x)
    | .nilCheck x => isArV (st.strip.opnd x)
    | _ => false

def pendR (o : Oper) (st : FSt U) : Bool :=
  match o.guard with
  | some _ => false
  | none => match o.op with
    | .call c => match c.callee, c.args.toList with
      | .builtin .append, [x, _] => (match st.strip.opnd x with
        | some (.ar _ _) => true
        | _ => false)
      | _, _ => false
    | _ => false

def fpOf (Γ : Known U) (o : Oper) (st : FSt U) (e : Eff U) : Fp := { core := coreR o st, pend := pendR o st, allT := callsWr Γ o st, touch := touch o st, writes := e.mem.map (·.1), kills := !e.kill.isEmpty, touchT := touchT o st, writesT := e.kill ++ e.ls.map (·.1) }

def meetT (a b : List Tok) : Bool := a.any fun x => tokIn b x

def noR (d : Nat) (a : List Tok) : Bool := a.all fun t => match t with
  | .r d' _ => !Nat.beq d' d
  | _ => true

def meet (a b : List Name) : Bool := a.any fun x => memList b x

def fpApart (ops : Array Oper) (x y : Oper) (a b : Fp) : Bool :=
  x.apart ops y && y.apart ops x && !meet a.writes b.touch && !meet b.writes a.touch && !meet a.writes b.writes && !(a.kills && readsDead y) && !(b.kills && readsDead x) &&
    (!meetT a.writesT b.touchT || (a.pend && b.core)) && (!meetT b.writesT a.touchT || (b.pend && a.core)) && !meetT a.writesT b.writesT && noR (y.dst.getD 0) a.writesT && noR (x.dst.getD 0) b.writesT &&
    (a.writesT.isEmpty || !b.allT) && (b.writesT.isEmpty || !a.allT)


structure Alike (Γ : Known U) (o : Oper) (ops : Array Oper) (st st' : FSt U) : Prop where
  n : st'.n = st.n
  env : ∀ t, t ∈ o.looksAt ops → st'.env t = st.env t
  mem : ∀ nm, nm ∈ touch o st → st'.mem nm = st.mem nm
  dead : readsDead o = true → st'.dead = st.dead
  mu : st'.mu = st.mu
  vw : st'.vw = st.vw
  ls : ∀ t, t ∈ touchT o st → st'.ls t = st.ls t
  fr : ∀ j, st'.ls (.r (o.dst.getD 0) j) = st.ls (.r (o.dst.getD 0) j)
  all : callsWr Γ o st = true → st'.ls = st.ls

theorem Alike.tok {o : Oper} {ops : Array Oper} {Γ : Known U} {st st' : FSt U} (h : Alike Γ o ops st st') {x : Operand} (hx : x ∈ readsT o) {v : V U} (hv : st.strip.opnd x = some v) {t : Tok} (ht : t ∈ v.toks) : st'.ls t = st.ls t :=
  h.ls t (List.mem_append_left _ (List.mem_flatMap.2 ⟨x, hx, by rw [hv]; simpa using ht⟩))

theorem lsBack_alike {st st' : FSt U} {d : Nat} (hd : st'.dead = st.dead) (hf : ∀ j, st'.ls (.r d j) = st.ls (.r d j)) : ∀ (L : List (Tok × LC U)), (lsSet (fun _ => none) L .A = none ∨ st'.ls .A = st.ls .A) → lsBack st' d L = lsBack st d L
  | [], _ => rfl
  | (t, x) :: L, hA => by
    have hA2 : t = .A → st'.ls .A = st.ls .A := fun e => by
      rcases hA with h | h
      · rw [e] at h; simp [lsSet] at h
      · exact h
    simp only [lsBack]
    rw [lsBack_alike hd hf L (by
      rcases hA with h | h
      · refine .inl ?_
        simp only [lsSet] at h
        split at h
        · cases h
        · exact h
      · exact .inr h)]
    cases hb : backTok d t with
    | none => rfl
    | some t' =>
      have e : (∃ j, t' = .r d j) ∨ (t = .A ∧ t' = .A) ∨ ∃ v i, t' = .S v i := by
        unfold backTok at hb
        split at hb
        · grind
        · grind
        · cases hb; exact .inr (.inr ⟨_, _, rfl⟩)
        · split at hb
          · cases hb; exact .inl ⟨_, rfl⟩
          · cases hb
        · cases hb
      rcases e with ⟨j, rfl⟩ | ⟨rfl, rfl⟩ | ⟨v, i, rfl⟩
      · have e1 : okBack st' (.r d j) = okBack st (.r d j) := by simp only [okBack, hf, hd]
        have e2 : ∀ x, upBack st' (.r d j) x = upBack st (.r d j) x := fun x => rfl
        cases lsBack st d L with
        | none => rfl
        | some l => simp only [e1, e2]
      · have e2 : ∀ x, upBack st' .A x = upBack st .A x := fun x => by simp only [upBack, hA2 rfl]
        have e1 : okBack st' .A = okBack st .A := rfl
        cases lsBack st d L with
        | none => rfl
        | some l => simp only [e1, e2]
      · have e1 : ∀ s : FSt U, okBack s (.S v i) = false := fun _ => rfl
        cases lsBack st d L with
        | none => rfl
        | some l => simp only [e1]; rfl

theorem Alike.opnd {o : Oper} {ops : Array Oper} {Γ : Known U} {st st' : FSt U} (h : Alike Γ o ops st st') {x : Operand} (hx : x ∈ o.op.operands.toList) : st'.opnd x = st.opnd x ∧ st'.strip.opnd x = st.strip.opnd x := by
  cases x with
  | tmp t =>
    have ht : t ∈ o.looksAt ops := List.mem_append_left _ (List.mem_filterMap.2 ⟨.tmp t, hx, rfl⟩)
    have := h.env t ht
    exact ⟨by simp [FSt.opnd, this], by simp [FSt.opnd, FSt.strip, this]⟩
  | const c => trivial
  | global g => trivial
  | func f => trivial

theorem rd_alike {st st' : FSt U} {p : V U} {ag : Bool} {n : Nat} (h : ∀ nm, nm ∈ ptrName (some p) → st'.mem nm = st.mem nm) : rd st' p ag n = rd st p ag n := by
  cases p <;> simp only [rd]
  case ptr nm off => rw [h nm (by simp [ptrName])]
  case ap nm off k len i => rw [h nm (by simp [ptrName])]

theorem passArgs_alike {st st' : FSt U} (hd : st'.dead = st.dead) (ps : Nat → Bool) : ∀ (xs : List (V U)) (i : Nat) (os : List (Name × List (C U))) (seen : List (Tok × Tok)),
    (∀ x, x ∈ xs → ∀ nm, nm ∈ ptrName (some x) → st'.mem nm = st.mem nm) → passArgs st' ps i xs os seen = passArgs st ps i xs os seen
  | [], i, os, seen, _ => rfl
  | x :: xs, i, os, seen, h => by
    have ih := fun i os seen => passArgs_alike hd ps xs i os seen (fun y hy => h y (by simp [hy]))
    simp only [passArgs, hd, ih]
    cases hp : ptr0 x with
    | none => rfl
    | some nm =>
      have e : st'.mem nm.1 = st.mem nm.1 := by
        refine h x (by simp) nm.1 ?_
        cases x <;> simp only [ptr0, reduceCtorEq] at hp
        · cases hp; simp [ptrName]
        · split at hp
          · grind
          · rename_i heq; cases heq; cases hp; simp [ptrName]
          · cases hp
      simp only [e]

theorem mem_withX {l : List Name} {nm : Name} (h : nm ∈ l) : nm ∈ withX l := by
  cases l with
  | nil => cases h
  | cons a l => exact List.mem_append_left _ h

theorem x8_withX {l : List Name} {k : Nat} (hk : k < 8) (hl : l ≠ []) : Name.x k ∈ withX l := by
  cases l with
  | nil => grind
  | cons a l =>
    refine List.mem_append_right _ ?_
    grind

theorem leadC_mem : ∀ {cs : List (C U)} {hv : List Name} {nm : Name}, nm ∈ leadC cs hv → nm ∈ hv ∨ ∃ k, k < 8 ∧ nm = .x k
  | [], hv, nm, h => .inl h
  | c :: cs, hv, nm, h => by
    cases c with
    | xp k =>
      simp only [leadC] at h
      rcases leadC_mem h with h | h
      · split at h
        · rename_i hc
          rw [Bool.and_eq_true] at hc
          rcases List.mem_append.1 h with h | h
          · exact .inl h
          · exact .inr ⟨k, by simpa using hc.1, by simpa using h⟩
        · exact .inl h
      · exact .inr h
    | _ => exact leadC_mem (by simpa only [leadC] using h)

theorem leads_mem {st : FSt U} : ∀ {l hv : List Name} {nm : Name}, nm ∈ leads st l hv → nm ∈ hv ∨ (l ≠ [] ∧ ∃ k, k < 8 ∧ nm = .x k)
  | [], hv, nm, h => .inl h
  | a :: l, hv, nm, h => by
    simp only [leads] at h
    rcases leads_mem h with h | ⟨_, h⟩
    · split at h
      · rcases leadC_mem h with h | h
        · exact .inl h
        · exact .inr ⟨by simp, h⟩
      · exact .inl h
    · exact .inr ⟨by simp, h⟩

theorem leads_alike {st st' : FSt U} : ∀ {l hv : List Name}, (∀ nm ∈ l, st'.mem nm = st.mem nm) → leads st' l hv = leads st l hv
  | [], hv, _ => rfl
  | a :: l, hv, h => by
    simp only [leads, h a (by simp)]
    exact leads_alike fun nm hn => h nm (by simp [hn])

theorem argNames_mem : ∀ {vs : List (V U)} {nm : Name}, nm ∈ argNames vs → ∃ x ∈ vs, nm ∈ ptrName (some x)
  | [], nm, h => by cases h
  | v :: vs, nm, h => by
    simp only [argNames] at h
    split at h
    · rename_i n mk hp
      rcases List.mem_cons.1 h with rfl | h
      · refine ⟨v, by simp, ?_⟩
        cases v <;> simp only [ptr0, reduceCtorEq] at hp
        · cases hp; simp [ptrName]
        · split at hp
          · grind
          · rename_i heq; cases heq; cases hp; simp [ptrName]
          · cases hp
      · obtain ⟨x, h1, h2⟩ := argNames_mem h
        grind
    · obtain ⟨x, h1, h2⟩ := argNames_mem h
      grind

theorem passArgs_names {st : FSt U} {ps : Nat → Bool} : ∀ {xs : List (V U)} {i : Nat} {os : List (Name × List (C U))} {seen : List (Tok × Tok)} {ys : List (V U)} {os' : List (Name × List (C U))} {seen' : List (Tok × Tok)},
    passArgs st ps i xs os seen = some (ys, os', seen') → os'.map (·.1) = os.map (·.1) ++ argNames xs
  | [], i, os, seen, ys, os', seen', h => by
    simp only [passArgs, Option.some.injEq, Prod.mk.injEq] at h
    obtain ⟨_, rfl, _⟩ := h
    simp [argNames]
  | x :: xs, i, os, seen, ys, os', seen', h => by
    simp only [passArgs] at h
    split at h
    · rename_i nm mk hp
      split at h
      · cases h
      split at h
      · cases h
      split at h
      · rename_i hrec
        simp only [Option.some.injEq, Prod.mk.injEq] at h
        obtain ⟨_, rfl, _⟩ := h
        have := passArgs_names hrec
        simp only [argNames, hp]
        grind
      · cases h
    · rename_i hp
      split at h
      · cases h
      split at h
      · rename_i hrec
        simp only [Option.some.injEq, Prod.mk.injEq] at h
        obtain ⟨_, rfl, _⟩ := h
        have := passArgs_names hrec
        simp only [argNames, hp]
        exact this
      · cases h

theorem extra_names {st : FSt U} {vs : List (V U)} {base : List Name} (hs : ∀ x ∈ vs, ∀ nm ∈ ptrName (some x), nm ∈ base) : ∀ x ∈ vs ++ extraX st vs, ∀ nm ∈ ptrName (some x), nm ∈ withX base := by
  intro x hx nm hn
  rcases List.mem_append.1 hx with hx | hx
  · exact mem_withX (hs x hx nm hn)
  · unfold extraX at hx
    obtain ⟨n, h1, rfl⟩ := List.mem_map.1 hx
    simp only [ptrName, List.mem_singleton] at hn
    subst hn
    rcases leads_mem (List.mem_of_mem_drop h1) with h2 | ⟨h2, k, hk, rfl⟩
    · obtain ⟨y, h3, h4⟩ := argNames_mem h2
      exact mem_withX (hs y h3 _ h4)
    · refine x8_withX hk fun e => ?_
      cases ha : argNames vs with
      | nil => exact h2 ha
      | cons b l =>
        obtain ⟨y, h3, h4⟩ := argNames_mem (show b ∈ argNames vs by rw [ha]; simp)
        grind

theorem aCall_alike {Γ : Known U} {st st' : FSt U} {d : Nat} {f : FuncId} {vs : List (V U)} {base : List Name} (hd : st'.dead = st.dead) (hs : ∀ x ∈ vs, ∀ nm ∈ ptrName (some x), nm ∈ base) (hm : ∀ nm ∈ withX base, st'.mem nm = st.mem nm)
    (hB : ∀ j, st'.ls (.r d j) = st.ls (.r d j)) (hW : ∀ s, Γ.fn f = some s → s.wr = true → st'.ls = st.ls) : aCall Γ st' d f vs = aCall Γ st d f vs := by
  unfold aCall
  cases hG : Γ.fn f with
  | none => rfl
  | some s =>
    have hx : extraX st' vs = extraX st vs := by
      unfold extraX
      rw [leads_alike]
      intro nm hn
      obtain ⟨x, h1, h2⟩ := argNames_mem hn
      exact hm nm (mem_withX (hs x h1 nm h2))
    have hn := extra_names (st := st) hs
    have hW2 : ∀ toks c, (bif s.wr then normLs st'.ls toks c else []) = (bif s.wr then normLs st.ls toks c else [] : List (Tok × LC U)) := by
      intro toks c
      cases hw : s.wr with
      | false => rfl
      | true => rw [hW s hG hw]
    simp only [hW2, hx]
    rw [passArgs_alike (st := st) (st' := st') hd _ _ _ _ _ (fun x hxm nm hnm => hm nm (hn x hxm nm hnm))]
    cases hp : passArgs st s.pass 0 (vs ++ extraX st vs) [] [] with
    | none => rfl
    | some r =>
      obtain ⟨ys, os, toks⟩ := r
      have e : (os.map fun x => fixX st' os (x.2, x.1)) = os.map fun x => fixX st os (x.2, x.1) := by
        apply List.map_congr_left
        intro x hxm
        have h1 : x.1 ∈ os.map (·.1) := List.mem_map.2 ⟨x, hxm, rfl⟩
        rw [passArgs_names hp] at h1
        obtain ⟨y, h2, h3⟩ := argNames_mem (show x.1 ∈ argNames (vs ++ extraX st vs) by simpa using h1)
        simp only [fixX, hm _ (hn y h2 _ h3)]
      simp only [e]
      split
      · rfl
      · rename_i ps r xs L hfn
        by_cases hA : lsSet (fun _ => none) L .A = none ∨ st'.ls .A = st.ls .A
        · rw [lsBack_alike hd hB L hA]
        · have hw : s.wr = false := by
            cases hw : s.wr with
            | false => rfl
            | true => exact absurd (.inr (by rw [hW s hG hw])) hA
          have hL : lsSet (fun _ => none) L .A ≠ none := fun e => hA (.inl e)
          have ha : arBack toks [] L = false := by
            unfold arBack
            cases newTok0 toks .A with
            | none =>
              cases hl : lsSet (fun _ => none) L .A with
              | none => exact absurd hl hL
              | some x => rfl
            | some t => simp [lsSet]
          simp only [hw, cond_false, ha]
          cases r.isP
          · simp only [cond_false]
            cases memBack d L (backX os) os xs with
            | none => rfl
            | some m => cases lsBack st' d L <;> cases lsBack st d L <;> rfl
          · rfl

theorem optC_alike {st st' : FSt U} {x : Option Operand} (h : ∀ y, x = some y → st'.opnd y = st.opnd y) : optC st' x = optC st x := by
  cases x with
  | none => rfl
  | some y => simp only [optC, h y rfl]

theorem mapM_alike {α β : Type} {f f' : α → Option β} : ∀ {l : List α}, (∀ x, x ∈ l → f' x = f x) → l.mapM f' = l.mapM f
  | [], _ => rfl
  | x :: l, h => by rw [List.mapM_cons, List.mapM_cons, h x (by simp), mapM_alike (fun y hy => h y (by simp [hy]))]

theorem aop_alike {Γ : Known U} {o : Oper} {ops : Array Oper} {st st' : FSt U} (h : Alike Γ o ops st st') : aop cfg Γ o st'.strip = aop cfg Γ o st.strip := by
  have hop := fun {x : Operand} (hx : x ∈ o.op.operands.toList) => (h.opnd hx).2
  have hm := h.mem
  have hd := h.dead
  have htk := fun {x : Operand} (hx : x ∈ readsT o) {v : V U} (hv : st.strip.opnd x = some v) {t : Tok} (ht : t ∈ v.toks) => h.tok hx hv ht
  have hmu := h.mu
  have hls := h.ls
  have hfr := h.fr
  have hall := h.all
  obtain ⟨dst, op, type, pos, after, guard⟩ := o
  cases op <;> simp only [aop]
  case move x => rw [hop (by simp [Op.operands])]
  case assign x => rw [hop (by simp [Op.operands])]
  case alloc t =>
    cases dst with
    | none => rfl
    | some d =>
      have : st'.strip.mem (.loc d) = st.strip.mem (.loc d) := hm (.loc d) (by simp [touch])
      cases cfg.var t with
      | none => rfl
      | some z => simp only [this]
  case box t x =>
    cases dst with
    | none => rfl
    | some d =>
      have : st'.strip.mem (.loc d) = st.strip.mem (.loc d) := hm (.loc d) (by simp [touch])
      rw [hop (x := x) (by simp [Op.operands])]
      cases cfg.var t with
      | none => rfl
      | some z =>
        cases (st.strip.opnd x).bind V.cells with
        | none => rfl
        | some cs => simp only [this]
  case build t parts =>
    rw [mapM_alike (f := fun x => ((st.strip.opnd x.2).bind V.cells).map (x.1, ·))]
    intro x hx
    rw [hop (by simp only [Op.operands]; simp; exact ⟨x.1, by simpa using hx⟩)]
  case buildSlice t n parts =>
    rw [mapM_alike (f := fun x => (st.strip.opnd x.2).map (x.1, ·)) (by
      intro x hx
      rw [hop (by simp only [Op.operands]; simp; exact ⟨x.1, by simpa using hx⟩)])]
    have hmu' : st'.strip.mu = st.strip.mu := hmu
    cases hnp : nilParts n parts.toList with
    | true =>
      have e0 : st'.strip.ls .A = st.strip.ls .A := hls _ (by simp [touchT, hnp])
      have hc : constParts parts.toList = false := by
        unfold nilParts at hnp
        split at hnp
        · rename_i hp; rw [hp]; rfl
        · cases hnp
      simp only [e0, hc, Bool.and_false, cond_false]
    | false =>
    simp only [Bool.and_false, cond_false]
    cases hc : constParts parts.toList with
    | false => simp only [Bool.and_false, cond_false]
    | true =>
      have e1 : st'.strip.dead = st.strip.dead := hd hc
      cases dst with
      | none => simp only [aBuildM, hmu']
      | some d =>
        have e2 : st'.strip.ls (.r d 0) = st.strip.ls (.r d 0) := hfr 0
        simp only [aBuildM, hmu', e1, e2]
  case load t p =>
    rw [hop (by simp [Op.operands])]
    cases cfg.var t with
    | none => rfl
    | some z =>
      cases hp : st.strip.opnd p with
      | none => rfl
      | some v =>
        have : rd st'.strip v z.1 z.2.length = rd st.strip v z.1 z.2.length := rd_alike fun nm hnm => hm nm (by simp only [touch]; rw [hp]; exact hnm)
        cases v <;> first | (simp only [this]; done) | skip
        case c c => cases c <;> first | rfl | (simp only [this]; done)
        case ar n k =>
          have : st'.strip.ls .A = st.strip.ls .A := htk (x := p) (by simp [readsT]) hp (by simp [V.toks])
          have e : st'.strip.ar cfg = st.strip.ar cfg := by simp only [FSt.ar, this]
          obtain ⟨ag, zs⟩ := z
          cases ag
          · simp only [e]
          · rfl
        case mp u n off =>
          have : st'.strip.ls u = st.strip.ls u := htk (x := p) (by simp [readsT]) hp (by simp [V.toks])
          simp only [this]
  case store t p x =>
    rw [hop (x := p) (by simp [Op.operands]), hop (x := x) (by simp [Op.operands])]
    cases hp : st.strip.opnd p with
    | none => cases cfg.var t <;> rfl
    | some v =>
      cases v
      case ar n k =>
        have : st'.strip.ls .A = st.strip.ls .A := htk (x := p) (by simp [readsT]) hp (by simp [V.toks])
        have e : st'.strip.ar cfg = st.strip.ar cfg := by simp only [FSt.ar, this]
        cases st.strip.opnd x with
        | none => cases cfg.var t <;> rfl
        | some y => simp only [e]
      case mp u n off =>
        have : st'.strip.ls u = st.strip.ls u := htk (x := p) (by simp [readsT]) hp (by simp [V.toks])
        cases cfg.var t with
        | none => rfl
        | some z =>
          cases (st.strip.opnd x).bind V.cells with
          | none => rfl
          | some cs => simp only [this]
      case ptr nm off =>
        have : st'.strip.mem nm = st.strip.mem nm := hm nm (by simp only [touch]; rw [hp]; simp [ptrName])
        cases cfg.var t with
        | none => rfl
        | some z =>
          cases (st.strip.opnd x).bind V.cells with
          | none => rfl
          | some cs => simp only [this]
      case ap nm off k len n =>
        have : st'.strip.mem nm = st.strip.mem nm := hm nm (by simp only [touch]; rw [hp]; simp [ptrName])
        cases cfg.var t with
        | none => rfl
        | some z =>
          cases (st.strip.opnd x).bind V.cells with
          | none => rfl
          | some cs =>
            match cs with
            | [] => rfl
            | [c] => cases c <;> first | rfl | simp only [this]
            | c :: _ :: _ => cases c <;> rfl
      all_goals (cases cfg.var t <;> rfl)
  case nilCheck x =>
    rw [hop (by simp [Op.operands])]
    cases hp : st.strip.opnd x with
    | none => rfl
    | some v =>
      cases v <;> try rfl
      case c c =>
        cases c <;> try rfl
        case mref u =>
          cases u <;> try rfl
          case A =>
            have : st'.strip.ls .A = st.strip.ls .A := htk (x := x) (by simp [readsT]) hp (by simp [V.toks])
            have e : st'.strip.ar cfg = st.strip.ar cfg := by simp only [FSt.ar, this]
            simp only [e]
      case mp u n off =>
        have : st'.strip.ls u = st.strip.ls u := htk (x := x) (by simp [readsT]) hp (by simp [V.toks])
        simp only [this]
  case binOp bop t x y t' =>
    rw [hop (x := x) (by simp [Op.operands]), hop (x := y) (by simp [Op.operands])]
    cases hp : st.strip.opnd x with
    | none => rfl
    | some v =>
      by_cases hA : v = .c (.mref .A)
      · subst hA
        have : st'.strip.ls .A = st.strip.ls .A := hls _ (by simp only [touchT]; exact List.mem_append_right _ (List.mem_filter.2 ⟨List.mem_flatMap.2 ⟨x, by simp, by rw [hp]; simp [V.toks]⟩, rfl⟩))
        have e : st'.strip.ar cfg = st.strip.ar cfg := by simp only [FSt.ar, this]
        simp only [e]
      · cases st.strip.opnd y with
        | none =>
          cases v <;> try rfl
          case c c =>
            cases c <;> try rfl
            case mref u => cases u <;> rfl
        | some vy =>
          cases v <;> try (cases vy <;> first | rfl | (rename_i c2; cases c2 <;> rfl))
          case c c =>
            cases c <;> try (cases vy <;> first | rfl | (rename_i c2; cases c2 <;> rfl))
            case mref u =>
              cases u <;> first | (exact absurd rfl hA) | (cases vy <;> first | rfl | (rename_i c2; cases c2 <;> rfl))
  case unOp uop t x => rw [hop (by simp [Op.operands])]
  case convert src dst' x => rw [hop (by simp [Op.operands])]
  case makeSlice t n m =>
    rw [hop (x := n) (by simp [Op.operands]), hop (x := m) (by simp [Op.operands])]
    have hmu' : st'.strip.mu = st.strip.mu := hmu
    have e1 : st'.strip.dead = st.strip.dead := hd rfl
    cases dst with
    | none => simp only [aMakeM, hmu']
    | some d =>
      have e2 : st'.strip.ls (.r d 0) = st.strip.ls (.r d 0) := hfr 0
      simp only [aMakeM, hmu', e1, e2]
  case slice t x lo hi mx =>
    rw [hop (x := x) (by simp [Op.operands]), optC_alike (x := lo) (fun y hy => hop (by simp [Op.operands, hy])), optC_alike (x := hi) (fun y hy => hop (by simp [Op.operands, hy])), optC_alike (x := mx) (fun y hy => hop (by simp [Op.operands, hy]))]
    cases hp : st.strip.opnd x with
    | none => rfl
    | some v =>
      cases v
      case ptr nm off =>
        have : st'.strip.mem nm = st.strip.mem nm := hm nm (by simp only [touch]; rw [hp]; simp [ptrName])
        cases optC st.strip lo with
        | none => rfl
        | some a =>
          cases optC st.strip hi with
          | none => cases a <;> rfl
          | some b =>
            cases optC st.strip mx with
            | none => cases a <;> cases b <;> rfl
            | some c => cases a <;> cases b <;> cases c <;> first | rfl | simp only [this]
      case c c =>
        have hvw : st'.strip.vw = st.strip.vw := h.vw
        cases c
        case mref u =>
          have : st'.strip.ls u = st.strip.ls u := htk (x := x) (by simp [readsT]) hp (by simp [V.toks])
          rcases optC st.strip lo with _ | _ | v
          case some.some =>
            cases v
            case c c => cases c <;> rcases optC st.strip hi with _ | _ | _ <;> rcases optC st.strip mx with _ | _ | _ <;> first | rfl | simp only [this, hvw]
            all_goals (cases optC st.strip hi <;> cases optC st.strip mx <;> rfl)
          all_goals (cases optC st.strip hi <;> cases optC st.strip mx <;> rfl)
        all_goals (cases optC st.strip lo <;> cases optC st.strip hi <;> cases optC st.strip mx <;> rfl)
      all_goals (cases optC st.strip lo <;> cases optC st.strip hi <;> cases optC st.strip mx <;> rfl)
  case fieldAddr t x f =>
    rw [hop (by simp [Op.operands])]
    cases hp : st.strip.opnd x with
    | none => rfl
    | some v =>
      cases cfg.fld t f with
      | none => cases v with
        | c c => cases c with
          | mref u => cases u <;> rfl
          | _ => rfl
        | _ => rfl
      | some z =>
        cases v <;> try rfl
        case c c =>
          cases c <;> try rfl
          case mref u =>
            cases u <;> try rfl
            case A =>
              have : st'.strip.ls .A = st.strip.ls .A := htk (x := x) (by simp [readsT]) hp (by simp [V.toks])
              have e : st'.strip.ar cfg = st.strip.ar cfg := by simp only [FSt.ar, this]
              simp only [e]
        case mp u n off =>
          have : st'.strip.ls u = st.strip.ls u := htk (x := x) (by simp [readsT]) hp (by simp [V.toks])
          simp only [this]
  case makeFunc f first caps =>
    rw [mapM_alike (f := fun x => (st.strip.opnd x).bind ptrZ)]
    intro x hx
    rw [hop (by simp only [Op.operands]; simp; right; simpa using hx)]
  case field t x f => rw [hop (by simp [Op.operands])]
  case indexAddr t x i =>
    rw [hop (x := x) (by simp [Op.operands]), hop (x := i) (by simp [Op.operands])]
    cases hp : st.strip.opnd x with
    | none => rfl
    | some v =>
      cases hi : st.strip.opnd i with
      | none => cases v <;> first | rfl | (rename_i y; cases y <;> rfl)
      | some vi =>
        cases vi <;> first | (cases v <;> first | (rfl; done) | (rename_i y; cases y <;> (rfl; done)); done) | skip
        case c z =>
          cases z <;> first | (cases v <;> first | (rfl; done) | (rename_i y; cases y <;> (rfl; done)); done) | skip
          case int k n =>
            cases v <;> first | (rfl; done) | skip
            case c y =>
              cases y <;> first | (rfl; done) | skip
              case mref u =>
                have : st'.strip.ls u = st.strip.ls u := htk (x := x) (by simp [readsT]) hp (by simp [V.toks])
                simp only [this]
            case ar m k =>
              have : st'.strip.ls .A = st.strip.ls .A := htk (x := x) (by simp [readsT]) hp (by simp [V.toks])
              have e : st'.strip.ar cfg = st.strip.ar cfg := by simp only [FSt.ar, this]
              simp only [e]
  case index t x i => rw [hop (x := x) (by simp [Op.operands]), hop (x := i) (by simp [Op.operands])]
  case extract x i => rw [hop (by simp [Op.operands])]
  case call c =>
    unfold aCallOp
    cases hc : c.callee with
    | builtin b =>
      simp only
      have hx : ∀ x ∈ c.args.toList, st'.strip.opnd x = st.strip.opnd x := fun x hx => hop (by simp [Op.operands, Call.operands, hc]; simpa using hx)
      unfold aBuiltin
      split
      · rename_i x t hargs hts
        rw [hx x (by rw [hargs]; simp)]
        cases hp : st.strip.opnd x with
        | none => rfl
        | some v =>
          have : lenOf cfg st'.strip t v = lenOf cfg st.strip t v := by
            cases v <;> try rfl
            case c y =>
              cases y <;> try rfl
              case mref u =>
                have : st'.strip.ls u = st.strip.ls u := htk (x := x) (by simp only [readsT, hc]; rw [hargs]; simp) hp (by simp [V.toks])
                simp only [lenOf, this]
          cases v <;> first | (simp only [this]; done) | skip
          case ar m k =>
            have : st'.strip.ls .A = st.strip.ls .A := htk (x := x) (by simp only [readsT, hc]; rw [hargs]; simp) hp (by simp [V.toks])
            have e : st'.strip.ar cfg = st.strip.ar cfg := by simp only [FSt.ar, this]
            simp only [e]
      · rename_i x y t t' hargs hts
        rw [hx x (by rw [hargs]; simp), hx y (by rw [hargs]; simp)]
        have hd' : st'.dead = st.dead := hd (by simp only [readsDead, hc])
        have : ∀ d t x y, aAppend cfg st'.strip d t x y = aAppend cfg st.strip d t x y := fun d t x y => by simp only [aAppend, FSt.strip, hd']
        have hmu' : st'.strip.mu = st.strip.mu := hmu
        cases dst with
        | none => rfl
        | some d =>
          cases hp : st.strip.opnd x with
          | none => rfl
          | some v =>
            cases v <;> try rfl
            case ar m k =>
              have : st'.strip.ls .A = st.strip.ls .A := htk (x := x) (by simp only [readsT, hc]; rw [hargs]; simp) hp (by simp [V.toks])
              have e : st'.strip.ar cfg = st.strip.ar cfg := by simp only [FSt.ar, this]
              cases st.strip.opnd y with
              | none => rfl
              | some vy => simp only [e]
            case c cx =>
              have hM : ∀ t y, aAppendM cfg st'.strip d t cx y = aAppendM cfg st.strip d t cx y := by
                intro t y
                have e1 : st'.strip.dead = st.strip.dead := hd'
                have e2 : st'.strip.ls (.r d 0) = st.strip.ls (.r d 0) := hfr 0
                have e3 : ∀ T, asMut cfg st'.strip T cx = asMut cfg st.strip T cx := by
                  intro T
                  cases cx <;> simp only [asMut, e1]
                  case mref u =>
                    have : st'.strip.ls u = st.strip.ls u := htk (x := x) (by simp only [readsT, hc]; rw [hargs]; simp) hp (by simp [V.toks])
                    simp only [this]
                simp only [aAppendM, e1, e2, e3]
              have hZ : ∀ t t' y, aAppendZ cfg st'.strip d t t' cx y = aAppendZ cfg st.strip d t t' cx y := by
                intro t t' y
                have e1 : st'.strip.dead = st.strip.dead := hd'
                have e2 : st'.strip.ls (.r d 0) = st.strip.ls (.r d 0) := hfr 0
                have e3 : ∀ T, asMut cfg st'.strip T cx = asMut cfg st.strip T cx := by
                  intro T
                  cases cx <;> simp only [asMut, e1]
                  case mref u =>
                    have : st'.strip.ls u = st.strip.ls u := htk (x := x) (by simp only [readsT, hc]; rw [hargs]; simp) hp (by simp [V.toks])
                    simp only [this]
                simp only [aAppendZ, e1, e2, e3]
              cases hq : st.strip.opnd y with
              | none => rfl
              | some vy => cases vy <;> first | (rfl; done) | (simp only [this, hM, hZ, hmu'])
      · rename_i x t hargs hts
        rw [hx x (by rw [hargs]; simp)]
        cases hp : st.strip.opnd x with
        | none => rfl
        | some v =>
          cases v <;> try rfl
          case vw u n =>
            have : st'.strip.ls u = st.strip.ls u := htk (x := x) (by simp only [readsT, hc]; rw [hargs]; simp) hp (by simp [V.toks])
            simp only [aClear, this]
      · rename_i x y t t' hargs hts
        rw [hx x (by rw [hargs]; simp), hx y (by rw [hargs]; simp)]
        cases hp : st.strip.opnd x with
        | none => rfl
        | some v =>
          cases v <;> try rfl
          case vw u n =>
            have : st'.strip.ls u = st.strip.ls u := htk (x := x) (by simp only [readsT, hc]; rw [hargs]; simp) hp (by simp [V.toks])
            cases st.strip.opnd y with
            | none => rfl
            | some vy => cases vy <;> first | rfl | simp only [aCopy, this]
      · rename_i x y hargs
        rw [hx x (by rw [hargs]; simp), hx y (by rw [hargs]; simp)]
      · rename_i x y hargs
        rw [hx x (by rw [hargs]; simp), hx y (by rw [hargs]; simp)]
      · rfl
    | value gx =>
      simp only
      have hd' : st'.dead = st.dead := hd (by simp only [readsDead, hc])
      have hx : ∀ x ∈ c.args.toList, st'.strip.opnd x = st.strip.opnd x := fun x hx => hop (by simp [Op.operands, Call.operands, hc]; right; simpa using hx)
      rw [hop (x := gx) (by simp [Op.operands, Call.operands, hc]), mapM_alike (f := st.strip.opnd) hx]
      cases hg : st.strip.opnd gx with
      | none => rfl
      | some v =>
        have key : ∀ (vs : List (V U)), c.args.toList.mapM st.strip.opnd = some vs → ∀ x ∈ vs, ∀ nm ∈ ptrName (some x), nm ∈ ptrName (some v) ++ c.args.toList.flatMap fun x => ptrName (st.strip.opnd x) := by
          intro vs hv x hxm nm hnm
          obtain ⟨j, hj, rfl⟩ := List.getElem_of_mem hxm
          have hlen := (mapM_len hv)
          have hja : j < c.args.toList.length := by omega
          obtain ⟨y, h1, h2⟩ := mapM_get hv j _ (List.getElem?_eq_getElem hja)
          rw [List.getElem?_eq_getElem hj] at h1
          cases h1
          exact List.mem_append_right _ (List.mem_flatMap.2 ⟨_, List.getElem_mem hja, by rw [h2]; exact hnm⟩)
        have hm2 : ∀ nm ∈ withX (ptrName (some v) ++ c.args.toList.flatMap fun x => ptrName (st.strip.opnd x)), st'.strip.mem nm = st.strip.mem nm := by
          intro nm hnm
          refine hm nm ?_
          simp only [touch, hc, hg]
          exact List.mem_cons_of_mem _ hnm
        have hB : ∀ j, st'.strip.ls (.r (dst.getD 0) j) = st.strip.ls (.r (dst.getD 0) j) := hfr
        have hW : ∀ f', (v = .fn f' ∨ ∃ nms, v = .clo f' nms) → ∀ s, Γ.fn f' = some s → s.wr = true → st'.strip.ls = st.strip.ls := by
          intro f' hv s hG hw
          exact hall (by
            rcases hv with rfl | ⟨nms, rfl⟩ <;> simp only [callsWr, hc, hg, takesWr, hG, hw, Bool.true_or])
        cases v <;> try rfl
        case fn f =>
          cases hv : c.args.toList.mapM st.strip.opnd with
          | none => rfl
          | some vs =>
            simp only
            cases hb : lends Γ f with
            | false =>
              cases hmk : makes Γ f with
              | false => simp only [cond_false]; exact aCall_alike hd' (key vs hv) hm2 hB (hW f (.inl rfl))
              | true =>
                have : st'.strip.mem (.loc (dst.getD 0)) = st.strip.mem (.loc (dst.getD 0)) := hm _ (by simp [touch, hc])
                have e : bareArgs st'.strip vs = bareArgs st.strip vs := by
                  unfold bareArgs
                  split
                  · rename_i nm
                    rw [hm2 nm (mem_withX (key _ hv _ List.mem_cons_self nm (by simp [ptrName])))]
                  · rfl
                simp only [cond_true, cond_false, aNew, this, e]
                have hc2 : aCall Γ st'.strip (dst.getD 0) f vs = aCall Γ st.strip (dst.getD 0) f vs := aCall_alike hd' (key vs hv) hm2 hB (hW f (.inl rfl))
                have ho : ∀ r, aOpen cfg Γ st'.strip (dst.getD 0) f r = aOpen cfg Γ st.strip (dst.getD 0) f r := by
                  intro r
                  unfold aOpen
                  cases hG : Γ.fn f with
                  | none => rfl
                  | some s =>
                    simp only
                    cases ha : s.arn with
                    | none => rfl
                    | some T =>
                      have h1 : st'.ls = st.ls := hall (by simp only [callsWr, hc, hg, takesWr, hG, ha, Option.isSome_some, Bool.or_true])
                      have h2 : st'.strip.ls = st.strip.ls := h1
                      have h3 : st'.strip.dead = st.strip.dead := hd'
                      simp only [h2, h3, this]
                rw [hc2]
                simp only [ho]
            | true =>
              have : st'.ls = st.ls := hall (by
                unfold lends at hb
                split at hb
                · rename_i s hG; simp only [callsWr, hc, hg, takesWr, hG, hb, Bool.or_true, Bool.true_or]
                · cases hb)
              have e : V.lend st'.strip = V.lend st.strip := by
                have e2 : C.lend st'.strip = C.lend st.strip := by
                  funext c
                  have h2 : st'.strip.ls = st.strip.ls := this
                  cases c <;> simp only [C.lend, h2]
                funext v
                cases v <;> simp only [V.lend, e2]
              simp only [cond_true, aLend, e]
        case clo f nms =>
          cases hv : c.args.toList.mapM st.strip.opnd with
          | none => rfl
          | some vs =>
            refine aCall_alike hd' (fun x hx nm hnm => ?_) hm2 hB (hW f (.inr ⟨nms, rfl⟩))
            rcases List.mem_append.1 hx with hx | hx
            · exact key vs hv x hx nm hnm
            · obtain ⟨nm0, h1, rfl⟩ := List.mem_map.1 hx
              simp only [ptrName, List.mem_singleton] at hnm
              subst hnm
              exact List.mem_append_left _ (by simpa [ptrName] using h1)
    | invoke r m => rfl
where
  mapM_len {f : Operand → Option (V U)} : ∀ {xs : List Operand} {vs : List (V U)}, xs.mapM f = some vs → xs.length = vs.length := by
    intro xs
    induction xs with
    | nil => intro vs h; simp at h; subst h; rfl
    | cons y xs ih =>
      intro vs h
      rw [List.mapM_cons] at h
      cases h1 : f y with
      | none => simp [h1] at h
      | some v =>
        cases h2 : xs.mapM f with
        | none => simp [h1, h2] at h
        | some r =>
          simp [h1, h2] at h
          subst h
          simp [ih h2]

theorem gNeeds_alike {st st' : FSt U} {G : Option Bool} : ∀ {l : List Operand}, (∀ t, Operand.tmp t ∈ l → st'.env t = st.env t) → gNeeds st' G l = gNeeds st G l
  | [], _ => rfl
  | x :: l, h => by
    have ih := gNeeds_alike (l := l) (G := G) (fun t ht => h t (by simp [ht]))
    cases x with
    | tmp t => simp only [gNeeds, h t (by simp), ih]
    | _ => trivial

theorem joinM_alike {tyEq : DecidableEq U.Ty} {G : Bool} {m0 m1 : Name → Option (List (C U))} : ∀ {m : List (Name × List (C U))}, (∀ x ∈ m, m1 x.1 = m0 x.1) → joinM tyEq G m1 m = joinM tyEq G m0 m
  | [], _ => rfl
  | (nm, cs) :: r, h => by
    simp only [joinM, h (nm, cs) (by simp), joinM_alike (m := r) (fun x hx => h x (by simp [hx]))]

theorem memList_iff {l : List Name} {nm : Name} : memList l nm = true ↔ nm ∈ l := by
  refine ⟨?_, memList_mem⟩
  induction l with
  | nil => intro h; cases h
  | cons x l ih =>
    intro h
    simp only [memList] at h
    grind

theorem touch_alike {o : Oper} {ops : Array Oper} {st st' : FSt U} (h : ∀ t, t ∈ o.looksAt ops → st'.env t = st.env t) : touch o st' = touch o st := by
  have hop : ∀ {x : Operand}, x ∈ o.op.operands.toList → st'.strip.opnd x = st.strip.opnd x := by
    intro x hx
    cases x with
    | tmp t => simp [FSt.opnd, FSt.strip, h t (List.mem_append_left _ (List.mem_filterMap.2 ⟨.tmp t, hx, rfl⟩))]
    | _ => rfl
  obtain ⟨dst, op, type, pos, after, guard⟩ := o
  cases op <;> simp only [touch]
  case load t p => rw [hop (by simp [Op.operands])]
  case store t p x => rw [hop (by simp [Op.operands])]
  case slice t x lo hi mx => rw [hop (by simp [Op.operands])]
  case call c =>
    have : ∀ (l : List Operand), (∀ x ∈ l, x ∈ c.args.toList) → (l.flatMap fun x => ptrName (st'.strip.opnd x)) = l.flatMap fun x => ptrName (st.strip.opnd x) := by
      intro l
      induction l with
      | nil => intro _; rfl
      | cons x l ih =>
        intro hl
        rw [List.flatMap_cons, List.flatMap_cons, ih (fun y hy => hl y (by simp [hy])), hop (by
          have := hl x (by simp)
          cases hc : c.callee <;> simp [Op.operands, Call.operands, hc] <;> first | (right; simpa using this) | simpa using this)]
    rw [this _ (fun x hx => hx)]
    cases hc : c.callee with
    | value gx => simp only [hop (x := gx) (by simp [Op.operands, Call.operands, hc])]
    | builtin b => rfl
    | invoke r m => rfl

theorem readsT_mem {o : Oper} {x : Operand} (h : x ∈ readsT o) : x ∈ o.op.operands.toList := by
  obtain ⟨dst, op, type, pos, after, guard⟩ := o
  cases op <;> simp only [readsT] at h <;> (try (cases h; done))
  case load t p => trivial
  case store t p x => simp only [List.mem_singleton] at h; subst h; simp [Op.operands]
  case nilCheck x => trivial
  case fieldAddr t x f => trivial
  case indexAddr t x i => simp only [List.mem_singleton] at h; subst h; simp [Op.operands]
  case slice t x lo hi mx => simp only [List.mem_singleton] at h; subst h; simp [Op.operands]
  case call c =>
    cases hc : c.callee <;> rw [hc] at h <;> (try (cases h; done))
    simp only at h
    simp only [Op.operands, Call.operands, hc]
    simpa using h

theorem touchT_alike {o : Oper} {ops : Array Oper} {st st' : FSt U} (h : ∀ t, t ∈ o.looksAt ops → st'.env t = st.env t) : touchT o st' = touchT o st := by
  have hop : ∀ {x : Operand}, x ∈ o.op.operands.toList → st'.strip.opnd x = st.strip.opnd x := by
    intro x hx
    cases x with
    | tmp t => simp [FSt.opnd, FSt.strip, h t (List.mem_append_left _ (List.mem_filterMap.2 ⟨.tmp t, hx, rfl⟩))]
    | _ => rfl
  unfold touchT
  have : ∀ (l : List Operand), (∀ x ∈ l, x ∈ readsT o) → (l.flatMap fun x => (st'.strip.opnd x).toList.flatMap V.toks) = l.flatMap fun x => (st.strip.opnd x).toList.flatMap V.toks := by
    intro l
    induction l with
    | nil => intro _; rfl
    | cons x l ih =>
      intro hl
      rw [List.flatMap_cons, List.flatMap_cons, ih (fun y hy => hl y (by simp [hy])), hop (readsT_mem (hl x (by simp)))]
  rw [this _ (fun x hx => hx)]
  congr 1
  obtain ⟨dst, op, type, pos, after, guard⟩ := o
  cases op <;> try rfl
  case binOp bop t x y t' => simp only [List.flatMap_cons, List.flatMap_nil, hop (x := x) (by simp [Op.operands]), hop (x := y) (by simp [Op.operands])]

theorem callsWr_alike {Γ : Known U} {o : Oper} {ops : Array Oper} {st st' : FSt U} (h : ∀ t, t ∈ o.looksAt ops → st'.env t = st.env t) : callsWr Γ o st' = callsWr Γ o st := by
  obtain ⟨dst, op, type, pos, after, guard⟩ := o
  cases op <;> try rfl
  case call c =>
    simp only [callsWr]
    cases hc : c.callee <;> try rfl
    case value g =>
      have : st'.strip.opnd g = st.strip.opnd g := by
        cases g with
        | tmp t => simp [FSt.opnd, FSt.strip, h t (List.mem_append_left _ (List.mem_filterMap.2 ⟨.tmp t, by simp [Op.operands, Call.operands, hc], rfl⟩))]
        | _ => rfl
      grind

theorem tokIn_iff {l : List Tok} {t : Tok} : tokIn l t = true ↔ t ∈ l := by
  induction l with
  | nil => simp [tokIn]
  | cons x l ih =>
    simp only [tokIn, List.mem_cons]
    grind

theorem astep_alike {Γ : Known U} {o : Oper} {ops : Array Oper} {st st' : FSt U} (h : Alike Γ o ops st st') : astep cfg Γ ops o st' = astep cfg Γ ops o st := by
  have hop := fun {x : Operand} (hx : x ∈ o.op.operands.toList) => (h.opnd hx).1
  have hG : guardOf ops st' o = guardOf ops st o := by
    unfold guardOf
    cases hg : o.guard with
    | none => rfl
    | some jw =>
      obtain ⟨j, want⟩ := jw
      simp only
      cases ht : (ops[j]?).bind (·.dst) with
      | none => rfl
      | some t =>
        have : st'.env t = st.env t := h.env t (List.mem_append_right _ (by simp [hg, ht]))
        grind
  have hN : ∀ G, gNeeds st' G o.op.operands.toList = gNeeds st G o.op.operands.toList := fun G =>
    gNeeds_alike fun t ht => h.env t (List.mem_append_left _ (List.mem_filterMap.2 ⟨.tmp t, ht, rfl⟩))
  unfold astep
  rw [h.n]
  split
  · split
    · rename_i c x y hc
      rw [hG, hop (x := c) (by simp [hc, Op.operands]), hop (x := x) (by simp [hc, Op.operands]), hop (x := y) (by simp [hc, Op.operands])]
    · have ht := touch_alike (st := st) (st' := st') h.env
      rw [hG]
      simp only [aop_alike h, hN, ht]
      split
      · rfl
      · rename_i G hGe
        cases he : aop cfg Γ o st.strip with
        | none => rfl
        | some r =>
          obtain ⟨ps, e⟩ := r
          cases G with
          | none => rfl
          | some Gb =>
            obtain ⟨v, m, k, l⟩ := e
            cases v with
            | none => rfl
            | some v =>
              cases k with
              | cons _ _ => grind
              | nil =>
                cases l with
                | cons y l =>
                  obtain ⟨t0, x'⟩ := y
                  have hT := touchT_alike (st := st) (st' := st') h.env
                  have hC := callsWr_alike (Γ := Γ) (st := st) (st' := st') h.env
                  cases t0 <;> cases l <;> try (cases m <;> rfl)
                  case A.nil =>
                    have key : ∀ m : List (Name × List (C U)), (m.all (fun x => memList (touch o st) x.1) && (tokIn (touchT o st) .A || callsWr Γ o st)) = true → joinM cfg.tyEq Gb st'.mem m = joinM cfg.tyEq Gb st.mem m ∧ joinA cfg Gb st' x' = joinA cfg Gb st x' := by
                      intro m hc
                      simp only [Bool.and_eq_true, Bool.or_eq_true] at hc
                      refine ⟨joinM_alike fun y hy => h.mem _ (memList_iff.1 (List.all_eq_true.1 hc.1 y hy)), ?_⟩
                      have : st'.ls .A = st.ls .A := by
                        rcases hc.2 with hc | hc
                        · exact h.ls _ (tokIn_iff.1 hc)
                        · rw [h.all hc]
                      simp only [joinA, this]
                    cases m with
                    | nil =>
                      simp only [hT, hC]
                      have k := key []
                      cases hc : ((([] : List (Name × List (C U))).all fun x => memList (touch o st) x.1) && (tokIn (touchT o st) .A || callsWr Γ o st)) with
                      | false => rfl
                      | true => rw [(k hc).1, (k hc).2]
                    | cons z m =>
                      simp only [hT, hC]
                      have k := key (z :: m)
                      cases hc : ((z :: m).all fun x => memList (touch o st) x.1) && (tokIn (touchT o st) .A || callsWr Γ o st) with
                      | false => rfl
                      | true => rw [(k hc).1, (k hc).2]
                | nil =>
                cases m with
                | nil => rfl
                | cons x r =>
                  simp only
                  cases hall : (x :: r).all fun x => memList (touch o st) x.1 with
                  | false => rfl
                  | true =>
                    have hj : joinM cfg.tyEq Gb st'.mem (x :: r) = joinM cfg.tyEq Gb st.mem (x :: r) := joinM_alike fun y hy => h.mem _ (memList_iff.1 (by
                      grind))
                    rw [hj]
  · rfl


theorem memSet_not {m0 : Name → Option (List (C U))} {m : List (Name × List (C U))} {nm : Name} (h : memList (m.map (·.1)) nm = false) : memSet m0 m nm = m0 nm := by
  induction m with
  | nil => rfl
  | cons x m ih =>
    obtain ⟨b, cs⟩ := x
    simp only [List.map_cons, memList] at h
    split at h
    · cases h
    · rename_i e
      simp only [memSet]
      grind

theorem meet_false {x y : List Name} (h : meet x y = false) : ∀ nm, nm ∈ x → memList y nm = false := by
  intro nm hn
  unfold meet at h
  grind

theorem meetT_false {x y : List Tok} (h : meetT x y = false) : ∀ t, t ∈ x → t ∉ y := by
  intro t ht hy
  unfold meetT at h
  rw [List.any_eq_false] at h
  have := h t ht
  rw [tokIn_iff.2 hy] at this
  simp at this

theorem lsSet_not {m : Tok → Option (LC U)} {l : List (Tok × LC U)} {t : Tok} (h : t ∉ l.map (·.1)) : lsSet m l t = m t := by
  induction l with
  | nil => rfl
  | cons x l ih =>
    obtain ⟨b, y⟩ := x
    simp only [List.map_cons, List.mem_cons, not_or] at h
    simp only [lsSet]
    grind

theorem lsOf_not {m : Tok → Option (LC U)} {e : Eff U} {t : Tok} (h : t ∉ e.kill ++ e.ls.map (·.1)) : lsOf m e t = m t := by
  simp only [List.mem_append, not_or] at h
  unfold lsOf
  have : e.kill.contains t = false := by
    cases hk : e.kill.contains t with
    | false => rfl
    | true => exact absurd (by simpa using hk) h.1
  rw [this, cond_false, lsSet_not h.2]

theorem alike_app {Γ : Known U} {ops : Array Oper} {x y : Oper} {st : FSt U} {e : Eff U} (hap : x.apart ops y = true) (hm : meet (e.mem.map (·.1)) (touch y st) = false) (hk : (!e.kill.isEmpty && readsDead y) = false)
    (ht : meetT (e.kill ++ e.ls.map (·.1)) (touchT y st) = false) (hr : noR (y.dst.getD 0) (e.kill ++ e.ls.map (·.1)) = true) (ha : ((e.kill ++ e.ls.map (·.1)).isEmpty || !callsWr Γ y st) = true) :
    Alike Γ y ops st (st.app x.dst e) := by
  obtain ⟨h1, _, _⟩ := Oper.apart_spec hap
  refine ⟨?_, ?_, ?_, ?_, by cases x.dst <;> rfl, by cases x.dst <;> rfl, fun t htt => lsOf_not (fun hm => meetT_false ht t hm htt), fun j => lsOf_not (fun hm => ?_), fun hc => ?_⟩
  · cases x.dst <;> rfl
  · intro t ht
    cases hd : x.dst with
    | none => rfl
    | some d =>
      have hne : t ≠ d := fun e => h1 d hd (e ▸ ht)
      have : Nat.beq t d = false := by
        cases hb : Nat.beq t d with
        | false => rfl
        | true => simp_all
      simp [FSt.app, FSt.put, this]
  · intro nm hn
    have : memList (e.mem.map (·.1)) nm = false := by
      cases hb : memList (e.mem.map (·.1)) nm with
      | false => rfl
      | true =>
        have := meet_false hm nm (memList_iff.1 hb)
        rw [memList_mem hn] at this
        cases this
    exact memSet_not this
  · intro hr
    simp only [hr, Bool.and_true, Bool.not_eq_false'] at hk
    have : e.kill = [] := by simpa using hk
    simp [FSt.app, this]
  · have := List.all_eq_true.1 hr _ hm
    simp at this
  · rw [hc] at ha
    simp only [Bool.not_true, Bool.or_false, List.isEmpty_iff] at ha
    funext t
    exact lsOf_not (by rw [ha]; simp)

theorem app_comm {ops : Array Oper} {x y : Oper} {st : FSt U} {e f : Eff U} (hap : x.apart ops y = true) (hm : meet (e.mem.map (·.1)) (f.mem.map (·.1)) = false) (hl : meetT (e.kill ++ e.ls.map (·.1)) (f.kill ++ f.ls.map (·.1)) = false) :
    (st.app x.dst e).app y.dst f = (st.app y.dst f).app x.dst e := by
  obtain ⟨_, h2, _⟩ := Oper.apart_spec hap
  have hput : ∀ (s : FSt U) (v u : V U), ((s.put x.dst v).put y.dst u) = ((s.put y.dst u).put x.dst v) := by
    intro s v u
    cases hx : x.dst with
    | none => rfl
    | some d =>
      cases hy : y.dst with
      | none => rfl
      | some d' =>
        have hne : d ≠ d' := fun e => h2 d hx (by rw [hy, e])
        simp only [FSt.put]
        congr 1
        funext j
        cases h1 : Nat.beq j d with
        | false => rfl
        | true =>
          cases h3 : Nat.beq j d' with
          | false => rfl
          | true => exact absurd ((Nat.eq_of_beq_eq_true h1).symm.trans (Nat.eq_of_beq_eq_true h3)) hne
  have hmem : memSet (memSet st.mem e.mem) f.mem = memSet (memSet st.mem f.mem) e.mem := by
    funext nm
    cases h1 : memList (e.mem.map (·.1)) nm with
    | false =>
      rw [memSet_not (m := e.mem) (m0 := memSet st.mem f.mem) h1]
      rcases memSet_cases st.mem f.mem nm with ⟨k, cs, h3, h4⟩ | ⟨h3, h4⟩
      · rcases memSet_cases (memSet st.mem e.mem) f.mem nm with ⟨k', cs', h5, h6⟩ | ⟨h5, h6⟩
        · have : ∀ (m0 m1 : Name → Option (List (C U))) (l : List (Name × List (C U))), (∃ x, x ∈ l ∧ x.1 = nm) → memSet m0 l nm = memSet m1 l nm := by
            intro m0 m1 l
            induction l with
            | nil => rintro ⟨x, hx, _⟩; simp at hx
            | cons z l ih =>
              rintro ⟨x, hx, hxe⟩
              obtain ⟨b, cs⟩ := z
              simp only [memSet]
              split
              · rfl
              · rename_i hne
                rcases List.mem_cons.1 hx with rfl | hx
                · exact absurd hxe.symm hne
                · exact ih ⟨x, hx, hxe⟩
          exact this _ _ _ ⟨_, List.mem_of_getElem? h3, rfl⟩
        · exact absurd rfl (h5 k _ h3)
      · rcases memSet_cases (memSet st.mem e.mem) f.mem nm with ⟨k', cs', h5, h6⟩ | ⟨h5, h6⟩
        · exact absurd rfl (h3 k' _ h5)
        · rw [h6, h4, memSet_not h1]
    | true =>
      have h2' : memList (f.mem.map (·.1)) nm = false := meet_false hm nm (memList_iff.1 h1)
      rw [memSet_not (m := f.mem) (m0 := memSet st.mem e.mem) h2']
      have : ∀ (m0 m1 : Name → Option (List (C U))) (l : List (Name × List (C U))), memList (l.map (·.1)) nm = true → memSet m0 l nm = memSet m1 l nm := by
        intro m0 m1 l
        induction l with
        | nil => intro h; cases h
        | cons z l ih =>
          obtain ⟨b, cs⟩ := z
          intro h
          simp only [List.map_cons, memList] at h
          simp only [memSet]
          split
          · rfl
          · rename_i hne
            rw [if_neg (fun e => hne e.symm)] at h
            exact ih h
      exact this _ _ _ h1
  have hdead : (fun t => (st.dead t || e.kill.contains t) || f.kill.contains t) = fun t => (st.dead t || f.kill.contains t) || e.kill.contains t := by
    funext t
    cases st.dead t <;> cases e.kill.contains t <;> cases f.kill.contains t <;> rfl
  have hn : ∀ (s : FSt U) d v, (s.put d v).n = s.n ∧ (s.put d v).mem = s.mem ∧ (s.put d v).dead = s.dead := by
    intro s d v; cases d <;> exact ⟨rfl, rfl, rfl⟩
  have henv : (((st.put x.dst (e.val.getD .junk))).put y.dst (f.val.getD .junk)).env = ((st.put y.dst (f.val.getD .junk)).put x.dst (e.val.getD .junk)).env := by rw [hput]
  have hpe : ∀ (s s' : FSt U) d v, s.env = s'.env → (s.put d v).env = (s'.put d v).env := by
    intro s s' d v he; cases d <;> simp [FSt.put, he]
  have hls : lsOf (lsOf st.ls e) f = lsOf (lsOf st.ls f) e := by
    funext t
    by_cases h1 : t ∈ e.kill ++ e.ls.map (·.1)
    · have h2 := meetT_false hl t h1
      rw [lsOf_not h2]
      unfold lsOf
      cases he : e.kill.contains t with
      | true => rfl
      | false =>
        simp only [cond_false]
        have h3 : t ∈ e.ls.map (·.1) := by
          rcases List.mem_append.1 h1 with h | h
          · have : e.kill.contains t = true := by simpa using h
            rw [he] at this; cases this
          · exact h
        have : ∀ (m0 m1 : Tok → Option (LC U)) (l : List (Tok × LC U)), t ∈ l.map (·.1) → lsSet m0 l t = lsSet m1 l t := by
          intro m0 m1 l
          induction l with
          | nil => intro h; cases h
          | cons z l ih =>
            obtain ⟨b, y⟩ := z
            intro h
            simp only [lsSet]
            split
            · rfl
            · rename_i hne
              simp only [List.map_cons, List.mem_cons] at h
              exact ih (h.resolve_left hne)
        exact this _ _ _ h3
    · rw [lsOf_not (m := lsOf st.ls f) h1]
      have : ∀ (m0 m1 : Tok → Option (LC U)) (l : List (Tok × LC U)), m0 t = m1 t → lsSet m0 l t = lsSet m1 l t := by
        intro m0 m1 l he
        induction l with
        | nil => exact he
        | cons z l ih =>
          obtain ⟨b, y⟩ := z
          simp only [lsSet]
          split
          · rfl
          · exact ih
      have h3 : lsOf st.ls e t = st.ls t := lsOf_not h1
      unfold lsOf at h3 ⊢
      cases hf : f.kill.contains t with
      | true => rfl
      | false => simp only [cond_false]; exact this _ _ _ h3
  have ext : ∀ {s s' : FSt U}, s.n = s'.n → s.env = s'.env → s.mem = s'.mem → s.dead = s'.dead → s.ls = s'.ls → s.mu = s'.mu → s.vw = s'.vw → s = s' := by
    intro s s' h1 h2 h3 h4; cases s; cases s'; simp_all
  refine ext ?_ ?_ ?_ ?_ hls ?_ (by cases x.dst <;> cases y.dst <;> rfl)
  · cases x.dst <;> cases y.dst <;> rfl
  · show ((st.app x.dst e).put y.dst _).env = ((st.app y.dst f).put x.dst _).env
    rw [hpe (st.app x.dst e) (st.put x.dst (e.val.getD .junk)) y.dst _ rfl, henv, hpe (st.app y.dst f) (st.put y.dst (f.val.getD .junk)) x.dst _ rfl]
  · show memSet (st.app x.dst e).mem f.mem = memSet (st.app y.dst f).mem e.mem
    exact hmem
  · exact hdead
  · cases x.dst <;> cases y.dst <;> rfl


def arC : Option (AV U) → Option (U.Ty × AState × Nat)
  | some A => some (A.T, A.S, A.v)
  | none => none

theorem opnd_alike {o : Oper} {ops : Array Oper} {st st' : FSt U} (h : ∀ t, t ∈ o.looksAt ops → st'.env t = st.env t) {x : Operand} (hx : x ∈ o.op.operands.toList) : st'.strip.opnd x = st.strip.opnd x := by
  cases x with
  | tmp t => simp [FSt.opnd, FSt.strip, h t (List.mem_append_left _ (List.mem_filterMap.2 ⟨.tmp t, hx, rfl⟩))]
  | _ => rfl

theorem coreR_alike {o : Oper} {ops : Array Oper} {st st' : FSt U} (h : ∀ t, t ∈ o.looksAt ops → st'.env t = st.env t) : coreR o st' = coreR o st := by
  have hop := fun {x : Operand} (hx : x ∈ o.op.operands.toList) => opnd_alike h hx
  unfold coreR
  cases o.guard with
  | some _ => rfl
  | none =>
    obtain ⟨dst, op, type, pos, after, guard⟩ := o
    cases op <;> simp only
    case fieldAddr t x f => rw [hop (by simp [Op.operands])]
    case load t x => rw [hop (by simp [Op.operands])]
    case nilCheck x => rw [hop (by simp [Op.operands])]

theorem pendR_alike {o : Oper} {ops : Array Oper} {st st' : FSt U} (h : ∀ t, t ∈ o.looksAt ops → st'.env t = st.env t) : pendR o st' = pendR o st := by
  have hop := fun {x : Operand} (hx : x ∈ o.op.operands.toList) => opnd_alike h hx
  unfold pendR
  cases o.guard with
  | some _ => rfl
  | none =>
    obtain ⟨dst, op, type, pos, after, guard⟩ := o
    cases op <;> simp only
    case call c =>
      split
      · rename_i x y hc ha
        rw [hop (x := x) (by simp [Op.operands, Call.operands, hc, ha])]
      · rfl

theorem aop_core {Γ : Known U} {o : Oper} {st : FSt U} {l : Tok → Option (LC U)} (hc : coreR o st = true) (ha : arC (({ st with ls := l } : FSt U).ar cfg) = arC (st.ar cfg)) :
    aop cfg Γ o ({ st with ls := l } : FSt U).strip = aop cfg Γ o st.strip := by
  have e1 : ∀ x, ({ st with ls := l } : FSt U).strip.opnd x = st.strip.opnd x := fun x => by cases x <;> rfl
  have e2 : ({ st with ls := l } : FSt U).strip.ar cfg = ({ st with ls := l } : FSt U).ar cfg := rfl
  have e3 : st.strip.ar cfg = st.ar cfg := rfl
  unfold coreR at hc
  obtain ⟨dst, op, type, pos, after, guard⟩ := o
  cases guard with
  | some _ => cases hc
  | none =>
    cases op <;> simp only at hc <;> try (cases hc; done)
    case fieldAddr t x f =>
      simp only [aop, e1, e2, e3]
      generalize ({ st with ls := l } : FSt U).ar cfg = A' at *
      generalize st.ar cfg = A at *
      cases hx : st.strip.opnd x with
      | none => rfl
      | some v =>
        rw [hx] at hc
        cases v with
        | c c =>
          cases c <;> try (cases hc; done)
          case mref u =>
            cases u <;> try (cases hc; done)
            cases cfg.fld t f with
            | none => rfl
            | some z =>
              obtain ⟨off, ft⟩ := z
              cases A with
              | none => cases A' with
                | none => rfl
                | some B' => cases ha
              | some B => cases A' with
                | none => cases ha
                | some B' =>
                  cases B; cases B'
                  simp only [arC, Option.some.injEq, Prod.mk.injEq] at ha
                  obtain ⟨rfl, rfl, rfl⟩ := ha
                  simp only
                  rcases cfg.var ft with _ | ⟨_, _ | ⟨_, _ | _⟩⟩ <;> rfl
        | ar n k =>
          cases cfg.fld t f with
          | none => rfl
          | some z => rfl
        | _ => cases hc
    case load t x =>
      simp only [aop, e1, e2, e3]
      generalize ({ st with ls := l } : FSt U).ar cfg = A' at *
      generalize st.ar cfg = A at *
      cases cfg.var t with
      | none => rfl
      | some z =>
      obtain ⟨ag, zs⟩ := z
      cases hx : st.strip.opnd x with
      | none => rfl
      | some v =>
        rw [hx] at hc
        cases v with
        | c c => cases c <;> first | rfl | (cases hc; done)
        | ar n k =>
          cases ag
          · simp only
            cases A with
            | none => cases A' with
              | none => rfl
              | some B' => cases ha
            | some B => cases A' with
              | none => cases ha
              | some B' =>
                simp only [arC, Option.some.injEq, Prod.mk.injEq] at ha
                have : arLoad B' n zs k = arLoad B n zs k := by
                  unfold arLoad
                  rw [ha.2.1, ha.2.2]
                simp only [this]
          · rfl
        | _ => cases hc
    case nilCheck x =>
      simp only [aop, e1, e2, e3]
      generalize ({ st with ls := l } : FSt U).ar cfg = A' at *
      generalize st.ar cfg = A at *
      cases hx : st.strip.opnd x with
      | none => rfl
      | some v =>
        rw [hx] at hc
        cases v with
        | c c =>
          cases c <;> try (cases hc; done)
          case mref t =>
            cases t <;> try (cases hc; done)
            simp only
            cases A with
            | none => cases A' with
              | none => rfl
              | some B' => cases ha
            | some B => cases A' with
              | none => cases ha
              | some B' => rfl
        | ar n k => rfl
        | _ => cases hc

theorem astep_core {Γ : Known U} {ops : Array Oper} {o : Oper} {st : FSt U} {l : Tok → Option (LC U)} (hc : coreR o st = true) (ha : arC (({ st with ls := l } : FSt U).ar cfg) = arC (st.ar cfg)) :
    astep cfg Γ ops o ({ st with ls := l } : FSt U) = astep cfg Γ ops o st := by
  have h := aop_core (Γ := Γ) hc ha
  have hg : o.guard = none := by
    unfold coreR at hc
    cases hg : o.guard with
    | none => rfl
    | some _ => rw [hg] at hc; cases hc
  have hn : ∀ G (xs : List Operand), gNeeds ({ st with ls := l } : FSt U) G xs = gNeeds st G xs := by
    intro G xs
    induction xs with
    | nil => rfl
    | cons x xs ih => cases x <;> simp only [gNeeds, ih]
  obtain ⟨dst, op, type, pos, after, guard⟩ := o
  cases hg
  unfold astep guardOf
  simp only [h, hn]
  cases op <;> first | rfl | (cases hc; done)

theorem arAppend_eff {A : AV U} {n : Nat} {same : Bool} {k : AK} {y : V U} {ps : List Prop} {e : Eff U} (h : arAppend cfg A n same k y = some (ps, e)) : ∃ S' val, arEff cfg A.T [A.S, S'] A.v val = some e := by
  unfold arAppend at h
  split at h
  · split at h
    · split at h
      · simp only [Option.map_eq_some_iff, Prod.mk.injEq] at h
        obtain ⟨e', h1, _, rfl⟩ := h
        exact ⟨_, _, h1⟩
      · cases h
    · split at h
      · rw [cond_eq_ite] at h
        split at h
        · simp only [Option.map_eq_some_iff, Prod.mk.injEq] at h
          obtain ⟨e', h1, _, rfl⟩ := h
          exact ⟨_, _, h1⟩
        · cases h
      · cases h
    · cases h
  · split at h
    · simp only [Option.map_eq_some_iff, Prod.mk.injEq] at h
      obtain ⟨e', h1, _, rfl⟩ := h
      exact ⟨_, _, h1⟩
    · cases h
  · cases h

theorem ar_at0 {A : AV U} (h : st.ar cfg = some A) : ∃ f, cfg.aT A.T = some f ∧ ∃ y : U.El A.T, f y = A.S := by
  unfold FSt.ar at h
  split at h
  · split at h
    · split at h
      · cases h; exact ⟨_, by assumption, _, rfl⟩
      · cases h; exact ⟨_, by assumption, _, rfl⟩
      · cases h
    · cases h
  · cases h

theorem pend_eff (ok : CfgOk P cfg) {Γ : Known U} {ops : Array Oper} {o : Oper} {ps : List Prop} {e : Eff U} (hp : pendR o st = true) (h : astep cfg Γ ops o st = some (ps, e)) :
    e.mem = [] ∧ e.kill = [] ∧ ∀ l, (l .A = lsOf st.ls e .A) → arC (({ st with ls := l } : FSt U).ar cfg) = arC (st.ar cfg) := by
  unfold pendR at hp
  obtain ⟨dst, op, type, pos, after, guard⟩ := o
  cases guard with
  | some _ => cases hp
  | none =>
    cases op <;> simp only at hp <;> try (cases hp; done)
    case call c =>
      split at hp
      case h_2 => cases hp
      rename_i x y hc ha
      have hx : ∃ n k, st.strip.opnd x = some (.ar n k) := by
        split at hp
        · rename_i n k hx; exact ⟨n, k, hx⟩
        · cases hp
      obtain ⟨n, k, hx⟩ := hx
      unfold astep guardOf at h
      split at h
      case isFalse => cases h
      simp only [aop, aCallOp, hc, ha] at h
      split at h
      case h_1 => cases h
      rename_i ps' e' he
      simp only [Option.some.injEq, Prod.mk.injEq] at h
      obtain ⟨_, rfl⟩ := h
      unfold aBuiltin at he
      split at he
      case h_2 =>
        rename_i q1 q2 q3
        cases q2
        split at he
        case h_1 =>
          rename_i r2 r3 _
          rw [hx] at r2
          cases r2
          split at he
          case h_2 => cases he
          rename_i A T hA hT
          have hA : st.ar cfg = some A := hA
          have key : ∀ {same : Bool} {y : V U}, arAppend cfg A n same k y = some (ps', e') → e'.mem = [] ∧ e'.kill = [] ∧ ∀ l, (l .A = lsOf st.ls e' .A) → arC (({ st with ls := l } : FSt U).ar cfg) = arC (st.ar cfg) := by
            intro same y hr
            obtain ⟨S', val, h1⟩ := arAppend_eff hr
            obtain ⟨f, hf, hy⟩ := ar_at0 hA
            obtain ⟨l', rfl, h2⟩ := arEff_spec ok hf h1
            refine ⟨rfl, rfl, fun l hl => ?_⟩
            rw [hA]
            match l', h2, hl with
            | [], h2, _ => cases h2
            | [_], h2, _ => simp at h2
            | _ :: _ :: _ :: _, h2, _ => simp at h2
            | [y1, y2], h2, hl =>
              simp only [List.map_cons, List.map_nil, List.cons.injEq] at h2
              have hl2 : l .A = some ⟨A.T, [y1, y2], A.v⟩ := hl
              have : ({ st with ls := l } : FSt U).ar cfg = some ⟨A.T, f y1, some (f y2), A.v⟩ := by
                unfold FSt.ar
                simp only [hl2, hf]
              rw [this]
              simp only [arC, h2.1]
          split at he
          · exact key he
          · exact key he
          · cases he
        all_goals first | (cases he; done) | (exfalso; simp_all; done)
      all_goals first | (rename_i q1 q2 q3; cases q2; done) | (rename_i q1 q2 q3; cases q1; done) | (cases he; done)

theorem ar_ls {st st' : FSt U} (h : st'.ls .A = st.ls .A) : st'.ar cfg = st.ar cfg := by
  unfold FSt.ar
  rw [h]

theorem core_app (ok : CfgOk P cfg) {Γ : Known U} {ops : Array Oper} {x y : Oper} {ps : List Prop} {e : Eff U} (hx : astep cfg Γ ops x st = some (ps, e)) (hp : pendR x st = true) (hc : coreR y st = true) (a1 : x.apart ops y = true) :
    astep cfg Γ ops y (st.app x.dst e) = astep cfg Γ ops y st := by
  obtain ⟨hm, hk, ha⟩ := pend_eff ok hp hx
  have A : Alike Γ y ops st (st.app x.dst { e with ls := [] }) := by
    refine alike_app a1 ?_ ?_ ?_ ?_ ?_
    · simp [hm, meet]
    · simp [hk]
    · simp [hk, meetT]
    · simp [hk, noR]
    · simp [hk]
  have S : st.app x.dst e = { st.app x.dst { e with ls := [] } with ls := lsOf st.ls e } := by
    cases x.dst <;> rfl
  have hl : (st.app x.dst { e with ls := [] }).ls .A = st.ls .A := by
    simp [FSt.app, lsOf, hk, lsSet]
  rw [S, astep_core (by rw [coreR_alike A.env]; exact hc) ?_, astep_alike A]
  rw [ar_ls hl, ← ha (lsOf st.ls e) rfl]
  exact congrArg arC (ar_ls rfl)

end Go.AM
