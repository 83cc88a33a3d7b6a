/- The abstract machine: regions whose order is drawn. -/
import Derived.Test.YtlahjnelghpmeaaAmL
set_option linter.unusedSimpArgs false
set_option linter.unusedVariables false
namespace Go.AM
variable {U : Uni} {P : Program} {cfg : Cfg U} {B : Base} {st : FSt U} {g : Gh} {a : Act} {w : World}

def readsDead (o : Oper) : Bool :=
  match o.op with
  | .call _ => true
  | _ => false

structure Fp where
  touch : List Name
  writes : List Name
  kills : Bool

def fpOf (o : Oper) (st : FSt U) (e : Eff U) : Fp := { touch := touch o st, writes := e.mem.map (·.1), kills := !e.kill.isEmpty }

def meet (a b : List Name) : Bool := a.any fun x => memList b x

def fpApart (ops : Array Oper) (x y : Oper) (a b : Fp) : Bool :=
  x.apart ops y && y.apart ops x && !meet a.writes b.touch && !meet b.writes a.touch && !meet a.writes b.writes && !(a.kills && readsDead y) && !(b.kills && readsDead x)

/-! ### an operation hangs on what it looks at alone -/

structure Alike (o : Oper) (ops : Array Oper) (st st' : FSt U) : Prop where
  n : st'.n = st.n
  env : ∀ t, t ∈ o.looksAt ops → st'.env t = st.env t
  mem : ∀ nm, nm ∈ touch o st → st'.mem nm = st.mem nm
  dead : readsDead o = true → st'.dead = st.dead

theorem Alike.opnd {o : Oper} {ops : Array Oper} {st st' : FSt U} (h : Alike o ops st st') {x : Operand} (hx : x ∈ o.op.operands.toList) : st'.opnd x = st.opnd x ∧ st'.strip.opnd x = st.strip.opnd x := by
  cases x with
  | tmp t =>
    have ht : t ∈ o.looksAt ops := List.mem_append_left _ (List.mem_filterMap.2 ⟨.tmp t, hx, rfl⟩)
    have := h.env t ht
    exact ⟨by simp [FSt.opnd, this], by simp [FSt.opnd, FSt.strip, this]⟩
  | const c => exact ⟨rfl, rfl⟩
  | global g => exact ⟨rfl, rfl⟩
  | func f => exact ⟨rfl, rfl⟩

theorem rd_alike {st st' : FSt U} {p : V U} {ag : Bool} {n : Nat} (h : ∀ nm, nm ∈ ptrName (some p) → st'.mem nm = st.mem nm) : rd st' p ag n = rd st p ag n := by
  cases p <;> simp only [rd]
  case ptr nm off => rw [h nm (by simp [ptrName])]
  case ap nm off k len i => rw [h nm (by simp [ptrName])]

theorem passArgs_alike {st st' : FSt U} (hd : st'.dead = st.dead) (ps : Nat → Bool) : ∀ (xs : List (V U)) (i : Nat) (os : List (Name × List (C U))) (seen : List (Tok × Tok)),
    (∀ x, x ∈ xs → ∀ nm, nm ∈ ptrName (some x) → st'.mem nm = st.mem nm) → passArgs st' ps i xs os seen = passArgs st ps i xs os seen
  | [], i, os, seen, _ => rfl
  | x :: xs, i, os, seen, h => by
    have ih := fun i os seen => passArgs_alike hd ps xs i os seen (fun y hy => h y (by simp [hy]))
    simp only [passArgs, hd, ih]
    cases hp : ptr0 x with
    | none => rfl
    | some nm =>
      have hx : x = .ptr nm 0 := by
        cases x <;> simp only [ptr0, reduceCtorEq] at hp
        split at hp
        · rename_i e; subst e; cases hp; rfl
        · cases hp
      have e := h x (by simp) nm (by rw [hx]; simp [ptrName])
      simp only [e]

theorem optC_alike {st st' : FSt U} {x : Option Operand} (h : ∀ y, x = some y → st'.opnd y = st.opnd y) : optC st' x = optC st x := by
  cases x with
  | none => rfl
  | some y => simp only [optC, h y rfl]

theorem mapM_alike {α β : Type} {f f' : α → Option β} : ∀ {l : List α}, (∀ x, x ∈ l → f' x = f x) → l.mapM f' = l.mapM f
  | [], _ => rfl
  | x :: l, h => by rw [List.mapM_cons, List.mapM_cons, h x (by simp), mapM_alike (fun y hy => h y (by simp [hy]))]

theorem aop_alike {Γ : Known U} {o : Oper} {ops : Array Oper} {st st' : FSt U} (h : Alike o ops st st') : aop cfg Γ o st'.strip = aop cfg Γ o st.strip := by
  have hop := fun {x : Operand} (hx : x ∈ o.op.operands.toList) => (h.opnd hx).2
  have hm := h.mem
  have hd := h.dead
  obtain ⟨dst, op, type, pos, after, guard⟩ := o
  cases op <;> simp only [aop]
  case move x => rw [hop (by simp [Op.operands])]
  case assign x => rw [hop (by simp [Op.operands])]
  case alloc t =>
    cases dst with
    | none => rfl
    | some d =>
      have : st'.strip.mem (.loc d) = st.strip.mem (.loc d) := hm (.loc d) (by simp [touch])
      cases cfg.var t with
      | none => rfl
      | some z => simp only [this]
  case box t x =>
    cases dst with
    | none => rfl
    | some d =>
      have : st'.strip.mem (.loc d) = st.strip.mem (.loc d) := hm (.loc d) (by simp [touch])
      rw [hop (x := x) (by simp [Op.operands])]
      cases cfg.var t with
      | none => rfl
      | some z =>
        cases (st.strip.opnd x).bind V.cells with
        | none => rfl
        | some cs => simp only [this]
  case build t parts =>
    rw [mapM_alike (f := fun x => ((st.strip.opnd x.2).bind V.cells).map (x.1, ·))]
    intro x hx
    rw [hop (by simp only [Op.operands]; simp; exact ⟨x.1, by simpa using hx⟩)]
  case buildSlice t n parts =>
    rw [mapM_alike (f := fun x => (st.strip.opnd x.2).map (x.1, ·))]
    intro x hx
    rw [hop (by simp only [Op.operands]; simp; exact ⟨x.1, by simpa using hx⟩)]
  case load t p =>
    rw [hop (by simp [Op.operands])]
    cases cfg.var t with
    | none => rfl
    | some z =>
      cases hp : st.strip.opnd p with
      | none => rfl
      | some v =>
        have : rd st'.strip v z.1 z.2.length = rd st.strip v z.1 z.2.length := rd_alike fun nm hnm => hm nm (by simp only [touch]; rw [hp]; exact hnm)
        simp only [this]
  case store t p x =>
    rw [hop (x := p) (by simp [Op.operands]), hop (x := x) (by simp [Op.operands])]
    cases cfg.var t with
    | none => rfl
    | some z =>
      cases hp : st.strip.opnd p with
      | none => rfl
      | some v =>
        cases v <;> try rfl
        case ptr nm off =>
          have : st'.strip.mem nm = st.strip.mem nm := hm nm (by simp only [touch]; rw [hp]; simp [ptrName])
          cases (st.strip.opnd x).bind V.cells with
          | none => rfl
          | some cs => simp only [this]
        case ap nm off k len n =>
          have : st'.strip.mem nm = st.strip.mem nm := hm nm (by simp only [touch]; rw [hp]; simp [ptrName])
          cases (st.strip.opnd x).bind V.cells with
          | none => rfl
          | some cs =>
            match cs with
            | [] => rfl
            | [c] => cases c <;> first | rfl | simp only [this]
            | c :: _ :: _ => cases c <;> rfl
  case nilCheck x => rw [hop (by simp [Op.operands])]
  case binOp bop t x y t' => rw [hop (x := x) (by simp [Op.operands]), hop (x := y) (by simp [Op.operands])]
  case unOp uop t x => rw [hop (by simp [Op.operands])]
  case convert src dst' x => rw [hop (by simp [Op.operands])]
  case makeSlice t n m => rw [hop (x := n) (by simp [Op.operands]), hop (x := m) (by simp [Op.operands])]
  case slice t x lo hi mx =>
    rw [hop (x := x) (by simp [Op.operands]), optC_alike (x := lo) (fun y hy => hop (by simp [Op.operands, hy])), optC_alike (x := hi) (fun y hy => hop (by simp [Op.operands, hy])), optC_alike (x := mx) (fun y hy => hop (by simp [Op.operands, hy]))]
    cases hp : st.strip.opnd x with
    | none => rfl
    | some v =>
      cases v
      case ptr nm off =>
        have : st'.strip.mem nm = st.strip.mem nm := hm nm (by simp only [touch]; rw [hp]; simp [ptrName])
        cases optC st.strip lo with
        | none => rfl
        | some a =>
          cases optC st.strip hi with
          | none => cases a <;> rfl
          | some b =>
            cases optC st.strip mx with
            | none => cases a <;> cases b <;> rfl
            | some c => cases a <;> cases b <;> cases c <;> first | rfl | simp only [this]
      all_goals (cases optC st.strip lo <;> cases optC st.strip hi <;> cases optC st.strip mx <;> rfl)
  case fieldAddr t x f => rw [hop (by simp [Op.operands])]
  case field t x f => rw [hop (by simp [Op.operands])]
  case indexAddr t x i => rw [hop (x := x) (by simp [Op.operands]), hop (x := i) (by simp [Op.operands])]
  case index t x i => rw [hop (x := x) (by simp [Op.operands]), hop (x := i) (by simp [Op.operands])]
  case extract x i => rw [hop (by simp [Op.operands])]
  case call c =>
    have hd' : st'.dead = st.dead := hd rfl
    unfold aCallOp
    cases hc : c.callee with
    | builtin b =>
      simp only
      have hx : ∀ x ∈ c.args.toList, st'.strip.opnd x = st.strip.opnd x := fun x hx => hop (by simp [Op.operands, Call.operands, hc]; simpa using hx)
      unfold aBuiltin
      split
      · rename_i x t hargs hts
        rw [hx x (by rw [hargs]; simp)]
      · rename_i x y t t' hargs hts
        rw [hx x (by rw [hargs]; simp), hx y (by rw [hargs]; simp)]
        have : ∀ d t x y, aAppend cfg st'.strip d t x y = aAppend cfg st.strip d t x y := fun d t x y => by simp only [aAppend, FSt.strip, hd']
        simp only [this]
      · rename_i x y hargs
        rw [hx x (by rw [hargs]; simp), hx y (by rw [hargs]; simp)]
      · rename_i x y hargs
        rw [hx x (by rw [hargs]; simp), hx y (by rw [hargs]; simp)]
      · rfl
    | value gx =>
      simp only
      have hx : ∀ x ∈ c.args.toList, st'.strip.opnd x = st.strip.opnd x := fun x hx => hop (by simp [Op.operands, Call.operands, hc]; right; simpa using hx)
      rw [hop (x := gx) (by simp [Op.operands, Call.operands, hc]), mapM_alike (f := st.strip.opnd) hx]
      cases hg : st.strip.opnd gx with
      | none => rfl
      | some v =>
        cases v <;> try rfl
        case fn f =>
          cases hv : c.args.toList.mapM st.strip.opnd with
          | none => rfl
          | some vs =>
            simp only
            unfold aCall
            cases Γ f with
            | none => rfl
            | some s =>
              simp only
              rw [passArgs_alike (st := st.strip) (st' := st'.strip) hd']
              intro x hxm nm hnm
              refine hm nm ?_
              simp only [touch]
              obtain ⟨j, hj, rfl⟩ := List.getElem_of_mem hxm
              have hlen := (mapM_len hv)
              have hja : j < c.args.toList.length := by omega
              obtain ⟨y, h1, h2⟩ := mapM_get hv j _ (List.getElem?_eq_getElem hja)
              rw [List.getElem?_eq_getElem hj] at h1
              cases h1
              exact List.mem_flatMap.2 ⟨_, List.getElem_mem hja, by rw [h2]; exact hnm⟩
    | invoke r m => rfl
where
  mapM_len {f : Operand → Option (V U)} : ∀ {xs : List Operand} {vs : List (V U)}, xs.mapM f = some vs → xs.length = vs.length := by
    intro xs
    induction xs with
    | nil => intro vs h; simp at h; subst h; rfl
    | cons y xs ih =>
      intro vs h
      rw [List.mapM_cons] at h
      cases h1 : f y with
      | none => simp [h1] at h
      | some v =>
        cases h2 : xs.mapM f with
        | none => simp [h1, h2] at h
        | some r =>
          simp [h1, h2] at h
          subst h
          simp [ih h2]

theorem gNeeds_alike {st st' : FSt U} {G : Option Bool} : ∀ {l : List Operand}, (∀ t, Operand.tmp t ∈ l → st'.env t = st.env t) → gNeeds st' G l = gNeeds st G l
  | [], _ => rfl
  | x :: l, h => by
    have ih := gNeeds_alike (l := l) (G := G) (fun t ht => h t (by simp [ht]))
    cases x with
    | tmp t => simp only [gNeeds, h t (by simp), ih]
    | _ => simp only [gNeeds, ih]

theorem joinM_alike {tyEq : DecidableEq U.Ty} {G : Bool} {m0 m1 : Name → Option (List (C U))} : ∀ {m : List (Name × List (C U))}, (∀ x ∈ m, m1 x.1 = m0 x.1) → joinM tyEq G m1 m = joinM tyEq G m0 m
  | [], _ => rfl
  | (nm, cs) :: r, h => by
    simp only [joinM, h (nm, cs) (by simp), joinM_alike (m := r) (fun x hx => h x (by simp [hx]))]

theorem memList_iff {l : List Name} {nm : Name} : memList l nm = true ↔ nm ∈ l := by
  refine ⟨?_, memList_mem⟩
  induction l with
  | nil => intro h; cases h
  | cons x l ih =>
    intro h
    simp only [memList] at h
    split at h
    · rename_i e; subst e; simp
    · simp [ih h]

theorem touch_alike {o : Oper} {ops : Array Oper} {st st' : FSt U} (h : ∀ t, t ∈ o.looksAt ops → st'.env t = st.env t) : touch o st' = touch o st := by
  have hop : ∀ {x : Operand}, x ∈ o.op.operands.toList → st'.strip.opnd x = st.strip.opnd x := by
    intro x hx
    cases x with
    | tmp t => simp [FSt.opnd, FSt.strip, h t (List.mem_append_left _ (List.mem_filterMap.2 ⟨.tmp t, hx, rfl⟩))]
    | _ => rfl
  obtain ⟨dst, op, type, pos, after, guard⟩ := o
  cases op <;> simp only [touch]
  case load t p => rw [hop (by simp [Op.operands])]
  case store t p x => rw [hop (by simp [Op.operands])]
  case slice t x lo hi mx => rw [hop (by simp [Op.operands])]
  case call c =>
    have : ∀ (l : List Operand), (∀ x ∈ l, x ∈ c.args.toList) → (l.flatMap fun x => ptrName (st'.strip.opnd x)) = l.flatMap fun x => ptrName (st.strip.opnd x) := by
      intro l
      induction l with
      | nil => intro _; rfl
      | cons x l ih =>
        intro hl
        rw [List.flatMap_cons, List.flatMap_cons, ih (fun y hy => hl y (by simp [hy])), hop (by
          have := hl x (by simp)
          cases hc : c.callee <;> simp [Op.operands, Call.operands, hc] <;> first | (right; simpa using this) | simpa using this)]
    exact this _ (fun x hx => hx)

theorem astep_alike {Γ : Known U} {o : Oper} {ops : Array Oper} {st st' : FSt U} (h : Alike o ops st st') : astep cfg Γ ops o st' = astep cfg Γ ops o st := by
  have hop := fun {x : Operand} (hx : x ∈ o.op.operands.toList) => (h.opnd hx).1
  have hG : guardOf ops st' o = guardOf ops st o := by
    unfold guardOf
    cases hg : o.guard with
    | none => rfl
    | some jw =>
      obtain ⟨j, want⟩ := jw
      simp only
      cases ht : (ops[j]?).bind (·.dst) with
      | none => rfl
      | some t =>
        have : st'.env t = st.env t := h.env t (List.mem_append_right _ (by simp [hg, ht]))
        simp only [this]
  have hN : ∀ G, gNeeds st' G o.op.operands.toList = gNeeds st G o.op.operands.toList := fun G =>
    gNeeds_alike fun t ht => h.env t (List.mem_append_left _ (List.mem_filterMap.2 ⟨.tmp t, ht, rfl⟩))
  unfold astep
  rw [h.n]
  split
  · split
    · rename_i c x y hc
      rw [hG, hop (x := c) (by simp [hc, Op.operands]), hop (x := x) (by simp [hc, Op.operands]), hop (x := y) (by simp [hc, Op.operands])]
    · have ht := touch_alike (st := st) (st' := st') h.env
      rw [hG]
      simp only [aop_alike h, hN, ht]
      split
      · rfl
      · rename_i G hGe
        cases he : aop cfg Γ o st.strip with
        | none => rfl
        | some r =>
          obtain ⟨ps, e⟩ := r
          cases G with
          | none => rfl
          | some Gb =>
            obtain ⟨v, m, k⟩ := e
            cases v with
            | none => rfl
            | some v =>
              cases k with
              | cons _ _ => cases m <;> rfl
              | nil =>
                cases m with
                | nil => rfl
                | cons x r =>
                  simp only
                  cases hall : (x :: r).all fun x => memList (touch o st) x.1 with
                  | false => rfl
                  | true =>
                    have hj : joinM cfg.tyEq Gb st'.mem (x :: r) = joinM cfg.tyEq Gb st.mem (x :: r) := joinM_alike fun y hy => h.mem _ (memList_iff.1 (by
                      rw [List.all_eq_true] at hall
                      exact hall y hy))
                    rw [hj]
  · rfl

/-! ### operations that are apart -/

theorem memSet_not {m0 : Name → Option (List (C U))} {m : List (Name × List (C U))} {nm : Name} (h : memList (m.map (·.1)) nm = false) : memSet m0 m nm = m0 nm := by
  induction m with
  | nil => rfl
  | cons x m ih =>
    obtain ⟨b, cs⟩ := x
    simp only [List.map_cons, memList] at h
    split at h
    · cases h
    · rename_i e
      simp only [memSet]
      rw [if_neg (fun e' => e e'.symm), ih h]

theorem meet_false {x y : List Name} (h : meet x y = false) : ∀ nm, nm ∈ x → memList y nm = false := by
  intro nm hn
  unfold meet at h
  rw [List.any_eq_false] at h
  simpa using h nm hn

/-- An operation behind one that is apart from it does what it does ahead of it. -/
theorem alike_app {ops : Array Oper} {x y : Oper} {st : FSt U} {e : Eff U} (hap : x.apart ops y = true) (hm : meet (e.mem.map (·.1)) (touch y st) = false) (hk : (!e.kill.isEmpty && readsDead y) = false) :
    Alike y ops st (st.app x.dst e) := by
  obtain ⟨h1, _, _⟩ := Oper.apart_spec hap
  refine ⟨?_, ?_, ?_, ?_⟩
  · cases x.dst <;> rfl
  · intro t ht
    cases hd : x.dst with
    | none => rfl
    | some d =>
      have hne : t ≠ d := fun e => h1 d hd (e ▸ ht)
      have : Nat.beq t d = false := by
        cases hb : Nat.beq t d with
        | false => rfl
        | true => exact absurd (Nat.eq_of_beq_eq_true hb) hne
      simp [FSt.app, FSt.put, this]
  · intro nm hn
    have : memList (e.mem.map (·.1)) nm = false := by
      cases hb : memList (e.mem.map (·.1)) nm with
      | false => rfl
      | true =>
        have := meet_false hm nm (memList_iff.1 hb)
        rw [memList_mem hn] at this
        cases this
    exact memSet_not this
  · intro hr
    simp only [hr, Bool.and_true, Bool.not_eq_false'] at hk
    have : e.kill = [] := by simpa using hk
    simp [FSt.app, this]

theorem app_comm {ops : Array Oper} {x y : Oper} {st : FSt U} {e f : Eff U} (hap : x.apart ops y = true) (hm : meet (e.mem.map (·.1)) (f.mem.map (·.1)) = false) :
    (st.app x.dst e).app y.dst f = (st.app y.dst f).app x.dst e := by
  obtain ⟨_, h2, _⟩ := Oper.apart_spec hap
  have hput : ∀ (s : FSt U) (v u : V U), ((s.put x.dst v).put y.dst u) = ((s.put y.dst u).put x.dst v) := by
    intro s v u
    cases hx : x.dst with
    | none => rfl
    | some d =>
      cases hy : y.dst with
      | none => rfl
      | some d' =>
        have hne : d ≠ d' := fun e => h2 d hx (by rw [hy, e])
        simp only [FSt.put]
        congr 1
        funext j
        cases h1 : Nat.beq j d with
        | false => rfl
        | true =>
          cases h3 : Nat.beq j d' with
          | false => rfl
          | true => exact absurd ((Nat.eq_of_beq_eq_true h1).symm.trans (Nat.eq_of_beq_eq_true h3)) hne
  have hmem : memSet (memSet st.mem e.mem) f.mem = memSet (memSet st.mem f.mem) e.mem := by
    funext nm
    cases h1 : memList (e.mem.map (·.1)) nm with
    | false =>
      rw [memSet_not (m := e.mem) (m0 := memSet st.mem f.mem) h1]
      rcases memSet_cases st.mem f.mem nm with ⟨k, cs, h3, h4⟩ | ⟨h3, h4⟩
      · rcases memSet_cases (memSet st.mem e.mem) f.mem nm with ⟨k', cs', h5, h6⟩ | ⟨h5, h6⟩
        · have : ∀ (m0 m1 : Name → Option (List (C U))) (l : List (Name × List (C U))), (∃ x, x ∈ l ∧ x.1 = nm) → memSet m0 l nm = memSet m1 l nm := by
            intro m0 m1 l
            induction l with
            | nil => rintro ⟨x, hx, _⟩; simp at hx
            | cons z l ih =>
              rintro ⟨x, hx, hxe⟩
              obtain ⟨b, cs⟩ := z
              simp only [memSet]
              split
              · rfl
              · rename_i hne
                rcases List.mem_cons.1 hx with rfl | hx
                · exact absurd hxe.symm hne
                · exact ih ⟨x, hx, hxe⟩
          exact this _ _ _ ⟨_, List.mem_of_getElem? h3, rfl⟩
        · exact absurd rfl (h5 k _ h3)
      · rcases memSet_cases (memSet st.mem e.mem) f.mem nm with ⟨k', cs', h5, h6⟩ | ⟨h5, h6⟩
        · exact absurd rfl (h3 k' _ h5)
        · rw [h6, h4, memSet_not h1]
    | true =>
      have h2' : memList (f.mem.map (·.1)) nm = false := meet_false hm nm (memList_iff.1 h1)
      rw [memSet_not (m := f.mem) (m0 := memSet st.mem e.mem) h2']
      have : ∀ (m0 m1 : Name → Option (List (C U))) (l : List (Name × List (C U))), memList (l.map (·.1)) nm = true → memSet m0 l nm = memSet m1 l nm := by
        intro m0 m1 l
        induction l with
        | nil => intro h; cases h
        | cons z l ih =>
          obtain ⟨b, cs⟩ := z
          intro h
          simp only [List.map_cons, memList] at h
          simp only [memSet]
          split
          · rfl
          · rename_i hne
            rw [if_neg (fun e => hne e.symm)] at h
            exact ih h
      exact this _ _ _ h1
  have hdead : (fun t => (st.dead t || e.kill.contains t) || f.kill.contains t) = fun t => (st.dead t || f.kill.contains t) || e.kill.contains t := by
    funext t
    cases st.dead t <;> cases e.kill.contains t <;> cases f.kill.contains t <;> rfl
  have hn : ∀ (s : FSt U) d v, (s.put d v).n = s.n ∧ (s.put d v).mem = s.mem ∧ (s.put d v).dead = s.dead := by
    intro s d v; cases d <;> exact ⟨rfl, rfl, rfl⟩
  have henv : (((st.put x.dst (e.val.getD .junk))).put y.dst (f.val.getD .junk)).env = ((st.put y.dst (f.val.getD .junk)).put x.dst (e.val.getD .junk)).env := by rw [hput]
  have hpe : ∀ (s s' : FSt U) d v, s.env = s'.env → (s.put d v).env = (s'.put d v).env := by
    intro s s' d v he; cases d <;> simp [FSt.put, he]
  have ext : ∀ {s s' : FSt U}, s.n = s'.n → s.env = s'.env → s.mem = s'.mem → s.dead = s'.dead → s = s' := by
    intro s s' h1 h2 h3 h4; cases s; cases s'; simp_all
  refine ext ?_ ?_ ?_ ?_
  · cases x.dst <;> cases y.dst <;> rfl
  · show ((st.app x.dst e).put y.dst _).env = ((st.app y.dst f).put x.dst _).env
    rw [hpe (st.app x.dst e) (st.put x.dst (e.val.getD .junk)) y.dst _ rfl, henv, hpe (st.app y.dst f) (st.put y.dst (f.val.getD .junk)) x.dst _ rfl]
  · show memSet (st.app x.dst e).mem f.mem = memSet (st.app y.dst f).mem e.mem
    exact hmem
  · exact hdead

end Go.AM
