import Derived.Test.YtcljdbpmjdgooaaEmW
set_option linter.unusedSimpArgs false
set_option linter.unusedVariables false
namespace Go.AM
variable {P : Program} {cfg : Cfg U}

structure CellR (α : Type) where
  get : List (Tok × LC U) → C U → Option α
  can : α → C U
  canL : α → List (Tok × LC U)
  ok : ∀ (cfg : Cfg U) L c a, get L c = some a → BetterC cfg c (can a) ∧ ∀ y ∈ canL a, lsSet (fun _ => none) L y.1 = some y.2

def tokEq (t : Tok) (k j : Nat) : Bool :=
  match t with
  | .x k' j' => Nat.beq k' k && Nat.beq j' j
  | _ => false

theorem tokEq_eq {t : Tok} {k j : Nat} (h : tokEq t k j = true) : t = .x k j := by
  unfold tokEq at h
  split at h
  · rw [Bool.and_eq_true] at h
    rw [Nat.eq_of_beq_eq_true h.1, Nat.eq_of_beq_eq_true h.2]
  · cases h

def cOwn (T : Ty) (k j : Nat) : CellR (List (El T)) :=
  { get := fun _ c => match c with
      | .nils => some []
      | .slice S l .full => if h : S = T then some (h ▸ l) else none
      | .slice S l (.own t) => if h : S = T then (bif tokEq t k j then some (h ▸ l) else none) else none
      | _ => none
    can := fun l => .slice (U := U) T l (.own (.x k j))
    canL := fun _ => []
    ok := by
      intro cfg L c a h
      refine ⟨?_, fun y hy => by cases hy⟩
      split at h
      · cases h
        intro g v hr
        have h1 := hr.1
        cases h1
        exact ⟨SimC.snil (cfg := cfg) (U := U) T _, fun _ _ b len cap hv => by cases hv⟩
      · split at h
        · rename_i hT
          subst hT
          cases h
          intro g v hr
          refine ⟨hr.1.tl _, fun _ _ b len cap hv i h3 h4 => ?_⟩
          have := hr.2 _ _ _ hv
          grind
        · cases h
      · split at h
        · rename_i hT
          subst hT
          rename_i t
          cases ht : tokEq t k j with
          | false => grind
          | true =>
            rw [ht] at h
            have := tokEq_eq ht
            subst this
            cases h
            exact fun _ _ hr => hr
        · cases h
      · cases h }

def cWt (T : Ty) (n : Tok) : CellR (List (El T)) :=
  { get := fun L c => match c with
      | .mref t => if t = n then match lsSet (fun _ => none) L t with
        | some x => if h : x.T = T ∧ x.f = 0 then some (h.1 ▸ x.l) else none
        | none => none
        else none
      | _ => none
    can := fun _ => .mref n
    canL := fun l => [(n, LC.mk (U := U) T l 0)]
    ok := by
      intro cfg L c a h
      split at h
      · rename_i t
        split at h
        · rename_i ht
          subst ht
          split at h
          · rename_i x hx
            split at h
            · rename_i hT
              obtain ⟨T', l, f⟩ := x
              obtain ⟨hT1, hT2⟩ := hT
              simp only at hT1 hT2
              subst hT1 hT2
              cases h
              refine ⟨fun _ _ hr => hr, fun y hy => ?_⟩
              grind
            · cases h
          · cases h
        · cases h
      · cases h }

def cAr : CellR Arena :=
  { get := fun L c => match c with
      | .mref .A => match lsSet (fun _ => none) L .A with
        | some x => if h : x.T = .arena ∧ x.f = 0 then (match (h.1 ▸ x.l : List (El .arena)) with
          | [y] => some y
          | _ => none) else none
        | none => none
      | _ => none
    can := fun _ => .mref .A
    canL := fun y => [(.A, LC.mk (U := U) .arena [y] 0)]
    ok := by
      intro cfg L c a h
      split at h
      · split at h
        · rename_i x hx
          split at h
          · rename_i hT
            obtain ⟨T', l, f⟩ := x
            obtain ⟨hT1, hT2⟩ := hT
            simp only at hT1 hT2
            subst hT1 hT2
            simp only at h
            split at h
            · rename_i y
              cases h
              refine ⟨fun _ _ hr => hr, fun z hz => ?_⟩
              simp only [List.mem_singleton] at hz
              subst hz
              exact hx
            · cases h
          · cases h
        · cases h
      · cases h }

def cWr (T : Ty) (k j : Nat) : CellR (List (El T)) := cWt T (.x k j)

structure ObjL (α : Type) where
  get : List (Tok × LC U) → List (C U) → Option α
  can : α → List (C U)
  canL : α → List (Tok × LC U)
  ok : ∀ (cfg : Cfg U) L cs a, get L cs = some a → (∀ y ∈ canL a, lsSet (fun _ => none) L y.1 = some y.2) ∧ cs.length = (can a).length ∧ ∀ (j : Nat) c c', cs[j]? = some c → (can a)[j]? = some c' → BetterC cfg c c'

def ObjL.nil : ObjL Unit :=
  { get := fun _ cs => match cs with
      | [] => some ()
      | _ :: _ => none
    can := fun _ => []
    canL := fun _ => []
    ok := by
      grind }

def ObjL.cons {α β : Type} (A : CellR α) (B : ObjL β) : ObjL (α × β) :=
  { get := fun L cs => match cs with
      | c :: r => match A.get L c with
        | some a => match B.get L r with
          | some b => some (a, b)
          | none => none
        | none => none
      | [] => none
    can := fun p => A.can p.1 :: B.can p.2
    canL := fun p => A.canL p.1 ++ B.canL p.2
    ok := by
      intro cfg L cs p h
      cases cs with
      | nil => cases h
      | cons c r =>
        simp only at h
        split at h
        · rename_i a ha
          split at h
          · rename_i b hb
            cases h
            obtain ⟨h0, h1, h2⟩ := B.ok cfg L r b hb
            obtain ⟨h3, h4⟩ := A.ok cfg L c a ha
            grind
          · cases h
        · cases h }

structure ArgM (α : Type) where
  get : List (Tok × LC U) → List (V U) → List (List (C U)) → Option α
  can : α → List (V U)
  canX : α → List (List (C U))
  canL : α → List (Tok × LC U)
  ok : ∀ cfg : Cfg U, cfg.enc = enc → ∀ L xs X a, get L xs X = some a → BetterAll cfg xs (can a) X (canX a) ∧ ∀ y ∈ canL a, lsSet (fun _ => none) L y.1 = some y.2

def ArgM.nil : ArgM Unit :=
  { get := fun _ xs X => match xs, X with
      | [], [] => some ()
      | _, _ => none
    can := fun _ => []
    canX := fun _ => []
    canL := fun _ => []
    ok := by
      intro cfg _ L xs X a h
      split at h
      · exact ⟨BetterAll.refl [] [], fun y hy => by cases hy⟩
      · cases h }

def ArgM.cons {α β : Type} (A : Arg α) (B : ArgM β) : ArgM (α × β) :=
  { get := fun L xs X => match xs with
      | x :: r => match A.get x with
        | some a => match B.get L r X with
          | some b => some (a, b)
          | none => none
        | none => none
      | [] => none
    can := fun p => A.can p.1 :: B.can p.2
    canX := fun p => B.canX p.2
    canL := fun p => B.canL p.2
    ok := by
      intro cfg hc L xs X p h
      cases xs with
      | nil => cases h
      | cons x r =>
        simp only at h
        split at h
        · rename_i a ha
          split at h
          · rename_i b hb
            cases h
            obtain ⟨hB, hBL⟩ := B.ok cfg hc L r X b hb
            refine ⟨?_, hBL⟩
            refine ⟨by simp [hB.len], fun j x' y hx hy => ?_, hB.xlen, hB.xl, hB.x⟩
            cases j with
            | zero => simp at hx hy; subst hx hy; exact A.ok cfg hc x a ha
            | succ j => exact hB.args j x' y (by simpa using hx) (by simpa using hy)
          · cases h
        · cases h }

def isX (k o : Nat) : V U → Bool
  | .ptr (.x k') off => Nat.beq k k' && Nat.beq off o
  | _ => false

theorem isX_eq {k o : Nat} {v : V U} (h : isX k o v = true) : v = .ptr (.x k) o := by
  unfold isX at h
  split at h
  · rw [Bool.and_eq_true] at h
    rw [Nat.eq_of_beq_eq_true h.1, Nat.eq_of_beq_eq_true h.2]
  · cases h

def ArgM.lst {α β : Type} (A : CellR α) (B : ArgM β) : ArgM (α × β) :=
  { get := fun L xs X => match xs with
      | .c x :: r => match A.get L x with
        | some a => match B.get L r X with
          | some b => some (a, b)
          | none => none
        | none => none
      | _ => none
    can := fun p => .c (A.can p.1) :: B.can p.2
    canX := fun p => B.canX p.2
    canL := fun p => A.canL p.1 ++ B.canL p.2
    ok := by
      intro cfg hc L xs X p h
      split at h
      · rename_i x r
        split at h
        · rename_i a ha
          split at h
          · rename_i b hb
            cases h
            obtain ⟨hB, hBL⟩ := B.ok cfg hc L r X b hb
            obtain ⟨hA, hAL⟩ := A.ok cfg L x a ha
            refine ⟨⟨by simp [hB.len], fun j x' y hx hy => ?_, hB.xlen, hB.xl, hB.x⟩, fun y hy => (List.mem_append.1 hy).elim (hAL y) (hBL y)⟩
            cases j with
            | zero => simp at hx hy; subst hx hy; exact fun g live v hr => hA g v hr
            | succ j => exact hB.args j x' y (by simpa using hx) (by simpa using hy)
          · cases h
        · cases h
      · cases h }

def ArgM.agg {α β : Type} (A : ObjL α) (B : ArgM β) : ArgM (α × β) :=
  { get := fun L xs X => match xs with
      | .agg x :: r => match A.get L x with
        | some a => match B.get L r X with
          | some b => some (a, b)
          | none => none
        | none => none
      | _ => none
    can := fun p => .agg (A.can p.1) :: B.can p.2
    canX := fun p => B.canX p.2
    canL := fun p => A.canL p.1 ++ B.canL p.2
    ok := by
      intro cfg hc L xs X p h
      split at h
      · rename_i x r
        split at h
        · rename_i a ha
          split at h
          · rename_i b hb
            cases h
            obtain ⟨hB, hBL⟩ := B.ok cfg hc L r X b hb
            obtain ⟨hAL, hl, hA⟩ := A.ok cfg L x a ha
            refine ⟨⟨by simp [hB.len], fun j x' y hx hy => ?_, hB.xlen, hB.xl, hB.x⟩, fun y hy => (List.mem_append.1 hy).elim (hAL y) (hBL y)⟩
            cases j with
            | zero =>
              simp at hx hy
              subst hx hy
              rintro g live v ⟨vs, h1, h2, h3⟩
              refine ⟨vs, h1, by rw [h2, hl], fun j u c' hu hc' => ?_⟩
              have hj : j < x.length := by have := (List.getElem?_eq_some_iff.1 hc').1; omega
              exact hA j _ c' (List.getElem?_eq_getElem hj) hc' g u (h3 j u _ hu (List.getElem?_eq_getElem hj))
            | succ j => exact hB.args j x' y (by simpa using hx) (by simpa using hy)
          · cases h
        · cases h
      · cases h }

def ArgM.objAt {α β : Type} (k o : Nat) (A : ObjL α) (B : ArgM β) : ArgM (α × β) :=
  { get := fun L xs X => match xs, X with
      | x :: r, cs :: X' => bif isX k o x then match A.get L cs with
        | some a => match B.get L r X' with
          | some b => some (a, b)
          | none => none
        | none => none
        else none
      | _, _ => none
    can := fun p => .ptr (.x k) o :: B.can p.2
    canX := fun p => A.can p.1 :: B.canX p.2
    canL := fun p => A.canL p.1 ++ B.canL p.2
    ok := by
      intro cfg hc L xs X p h
      split at h
      · rename_i x r cs X'
        cases hx : isX k o x with
        | false => grind
        | true =>
          rw [hx] at h
          simp only [cond_true] at h
          have ex := isX_eq hx
          subst ex
          split at h
          · rename_i a ha
            split at h
            · rename_i b hb
              cases h
              obtain ⟨hB, hBL⟩ := B.ok cfg hc L r X' b hb
              obtain ⟨hAL, hA⟩ := A.ok cfg L cs a ha
              refine ⟨?_, fun y hy => (List.mem_append.1 hy).elim (hAL y) (hBL y)⟩
              refine ⟨by simp [hB.len], fun j x' y hx hy => ?_, by simp [hB.xlen], fun j x' y hx hy => ?_, fun j x' y hx hy i c c' hcc hc' => ?_⟩
              · cases j with
                | zero => simp at hx hy; subst hx hy; exact fun _ _ _ h => h
                | succ j => exact hB.args j x' y (by simpa using hx) (by simpa using hy)
              · cases j with
                | zero => simp at hx hy; subst hx hy; exact hA.1
                | succ j => exact hB.xl j x' y (by simpa using hx) (by simpa using hy)
              · cases j with
                | zero =>
                  simp at hx hy
                  subst hx hy
                  exact hA.2 i c c' hcc hc'
                | succ j => exact hB.x j x' y (by simpa using hx) (by simpa using hy) i c c' hcc hc'
            · cases h
          · cases h
      · cases h }

def ArgM.obj {α β : Type} (k : Nat) (A : ObjL α) (B : ArgM β) : ArgM (α × β) := ArgM.objAt k 0 A B

def okA (L L0 : List (Tok × LC U)) : Bool := (lsSet (fun _ => none) L0 .A).isSome || (lsSet (fun _ => none) L .A).isNone

def fsXL {α : Type} (A : ArgM α) (pre : α → List Prop) (res : α → V U) (resX : α → List (List (C U))) (resL : α → List (Tok × LC U)) : Fs U :=
  { wr := true
    mkl := true
    fn := fun _ _ => none
    fn2 := fun xs X L => match A.get L xs X with
      | some a => bif okA L (A.canL a) then some (pre a, res a, resX a, resL a) else none
      | none => none }

theorem fsXL_some {α : Type} {A : ArgM α} {pre : α → List Prop} {res : α → V U} {resX : α → List (List (C U))} {resL : α → List (Tok × LC U)} {xs : List (V U)} {X : List (List (C U))} {L : List (Tok × LC U)} {y : List Prop × V U × List (List (C U)) × List (Tok × LC U)}
    (h : (fsXL A pre res resX resL).fn2 xs X L = some y) : ∃ a, A.get L xs X = some a ∧ okA L (A.canL a) = true ∧ y = (pre a, res a, resX a, resL a) := by
  unfold fsXL at h
  simp only at h
  split at h
  · rename_i a ha
    rw [cond_eq_ite] at h
    split at h
    · rename_i hc
      cases h
      exact ⟨a, ha, hc, rfl⟩
    · cases h
  · cases h

theorem mem_of_lsSet : ∀ {L : List (Tok × LC U)} {t : Tok} {x : LC U}, lsSet (fun _ => none) L t = some x → (t, x) ∈ L
  | [], t, x, h => by trivial
  | (a, y) :: L, t, x, h => by
    simp only [lsSet] at h
    split at h
    · grind
    · exact List.mem_cons_of_mem _ (mem_of_lsSet h)

theorem contract_fsXL {Γ : Known U} {α : Type} {A : ArgM α} {pre : α → List Prop} {res : α → V U} {resX : α → List (List (C U))} {resL : α → List (Tok × LC U)} (ok : CfgOk P cfg) (henc : cfg.enc = enc) (hΓ : ∀ f s, Γ f = some s → Contract P cfg f s) {f : FuncId} {fn : Func} (lv : Lives U)
    (hf : P.funcs[f]? = some fn) (hb : fn.body = some (cd fn [])) (hname : (fn.name == "runtime.NumGoroutine") = false) (hn : ∀ a, (A.can a).length ≤ fn.ntmps)
    (hbody : ∀ a, All (pre a) → awp cfg Γ (drawOk cfg Γ) fn.ntmps lv (cd fn []) (entryL (A.can a) (A.canX a) (A.canL a)) (EndsQL cfg fn.ntmps fn.results.toList (res a) (resX a) (resL a))) (hna : Γ.na = false := by rfl) : Contract P cfg f (fsXL A pre res resX resL) := by
  refine contract_ofL ok hΓ (drawOk_sound ok hΓ) lv hf hb hname ?_
  intro args X L ps r X' L' hs hps
  obtain ⟨a, ha, hc, e⟩ := fsXL_some hs
  cases e
  obtain ⟨h1, h2⟩ := A.ok cfg henc L args X a ha
  refine ⟨fun h => (by rw [hna] at h; cases h), A.can a, A.canX a, A.canL a, h1, ⟨fun t x hx => h2 _ (mem_of_lsSet hx), fun h => ?_⟩, hn a, hbody a hps⟩
  unfold okA at hc
  rw [h] at hc
  simpa using hc

theorem contractXL_flat {l : List (FuncId × Fs U)} {α : Type} {A : ArgM α} {pre : α → Prop} {res : α → V U} {resX : α → List (List (C U))} {resL : α → List (Tok × LC U)} (ok : CfgOk P cfg) (henc : cfg.enc = enc) (hl : KnowOk P cfg l) {f : FuncId} {fn : Func} (lv : Lives U)
    (hf : P.funcs[f]? = some fn) (hb : fn.body = some (cd fn [])) (hname : (fn.name == "runtime.NumGoroutine") = false) (n : Nat) (hn : ∀ a, (A.can a).length = n) (hn' : n ≤ fn.ntmps)
    (hbody : ∀ a, pre a → awp cfg (know l) (drawOk cfg (know l)) fn.ntmps lv (cd fn []) (entryL (A.can a) (A.canX a) (A.canL a)) (EndsQL cfg fn.ntmps fn.results.toList (res a) (resX a) (resL a))) : Contract P cfg f (fsXL A (fun a => [pre a]) res resX resL) :=
  contract_fsXL (Γ := know l) ok henc (know_ok hl) lv hf hb hname (fun a => by grind) (fun a h => hbody a h.1)

def Fs.passing (s : Fs U) (p : List Nat) : Fs U := { s with pass := fun i => p.contains i }
theorem Contract.passing {f : FuncId} {s : Fs U} {p : List Nat} (h : Contract P cfg f s) : Contract P cfg f (s.passing p) := h

theorem fsXL_zero {α : Type} {A : ArgM α} {pre : α → Prop} {μ : α → Nat} {res : α → V U} {resX : α → List (List (C U))} {resL : α → List (Tok × LC U)} {f : FuncId} (h0 : ∃ fn, P.funcs[f]? = some fn ∧ fn.body.isSome = true ∧ (fn.name == "runtime.NumGoroutine") = false) :
    Contract P cfg f (fsXL A (fun a => [pre a, μ a < 0]) res resX resL) := by
  refine ⟨h0, fun args X L ps r X' L' he hps hX w g vs E => ?_⟩
  obtain ⟨a, _, _, e⟩ := fsXL_some he
  cases e
  exact absurd hps.2.1 (Nat.not_lt_zero _)

theorem fsXL_less {α : Type} {A : ArgM α} {pre : α → Prop} {μ : α → Nat} {res : α → V U} {resX : α → List (List (C U))} {resL : α → List (Tok × LC U)} {f : FuncId}
    (key : ∀ N, Contract P cfg f (fsXL A (fun a => [pre a, μ a < N]) res resX resL)) : Contract P cfg f (fsXL A (fun a => [pre a]) res resX resL) := by
  refine ⟨(key 0).1, fun args X L ps r X' L' he hps hX w g vs E => ?_⟩
  obtain ⟨a, ha, hc, e⟩ := fsXL_some he
  cases e
  exact (key (μ a + 1)).2 args X L [pre a, μ a < μ a + 1] _ _ _ (by simp only [fsXL, ha, hc, cond_true]) ⟨hps.1, Nat.lt_succ_self _, trivial⟩ hX w g vs E

def Fs.lend (s : Fs U) : Fs U := { s with bor := true }
theorem Contract.lend {f : FuncId} {s : Fs U} (h : Contract P cfg f s) : Contract P cfg f s.lend := h

end Go.AM
