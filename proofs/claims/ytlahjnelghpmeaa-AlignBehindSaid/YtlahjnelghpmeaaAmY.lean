/- Typed arguments among which are objects, and what is known of a function of them. -/
import Derived.Test.YtlahjnelghpmeaaAmW
set_option linter.unusedSimpArgs false
set_option linter.unusedVariables false
namespace Go.AM
variable {P : Program} {cfg : Cfg U}

/-- A cell is read. -/
structure CellR (α : Type) where
  get : C U → Option α
  can : α → C U
  ok : ∀ c a, get c = some a → Wk c (can a)

def cInt (k : IntKind) : CellR Int :=
  { get := fun c => match c with
      | .int k' n => if k = k' then some n else none
      | _ => none
    can := fun n => .int k n
    ok := by
      intro c a h
      split at h
      · split at h
        · rename_i hk; subst hk; cases h; exact .int _ _
        · cases h
      · cases h }

def cBool : CellR Bool :=
  { get := fun c => match c with
      | .bool b => some b
      | _ => none
    can := fun b => .bool b
    ok := by
      intro c a h
      split at h
      · cases h; exact .bool _
      · cases h }

def cSl (T : Ty) : CellR (List (El T)) :=
  { get := fun c => match rSl T [c] with
      | some (l, _) => some l
      | none => none
    can := fun l => sl T l
    ok := by
      intro c a h
      split at h
      · rename_i l r hr
        cases h
        obtain ⟨p, hp, hw⟩ := reads_sl T _ _ _ hr
        match p, hw with
        | [y], hw =>
          simp at hp
          obtain ⟨rfl, _⟩ := hp
          exact hw.1
      · cases h }

/-- An object's cells are read. -/
structure ObjL (α : Type) where
  get : List (C U) → Option α
  can : α → List (C U)
  ok : ∀ cs a, get cs = some a → WkL cs (can a)

def ObjL.nil : ObjL Unit :=
  { get := fun cs => match cs with
      | [] => some ()
      | _ :: _ => none
    can := fun _ => []
    ok := by
      intro cs a h
      cases cs with
      | nil => trivial
      | cons _ _ => cases h }

def ObjL.cons {α β : Type} (A : CellR α) (B : ObjL β) : ObjL (α × β) :=
  { get := fun cs => match cs with
      | c :: r => match A.get c with
        | some a => match B.get r with
          | some b => some (a, b)
          | none => none
        | none => none
      | [] => none
    can := fun p => A.can p.1 :: B.can p.2
    ok := by
      intro cs p h
      cases cs with
      | nil => cases h
      | cons c r =>
        simp only at h
        split at h
        · rename_i a ha
          split at h
          · rename_i b hb
            cases h
            exact ⟨A.ok c a ha, B.ok r b hb⟩
          · cases h
        · cases h }

/-- A reader of arguments and of the objects whose addresses are among them. -/
structure ArgM (α : Type) where
  get : List (V U) → List (List (C U)) → Option α
  can : α → List (V U)
  canX : α → List (List (C U))
  ok : ∀ cfg : Cfg U, cfg.enc = enc → ∀ xs X a, get xs X = some a → BetterAll cfg xs (can a) X (canX a)

def ArgM.nil : ArgM Unit :=
  { get := fun xs X => match xs, X with
      | [], [] => some ()
      | _, _ => none
    can := fun _ => []
    canX := fun _ => []
    ok := by
      intro cfg _ xs X a h
      split at h
      · exact BetterAll.refl [] []
      · cases h }

def ArgM.cons {α β : Type} (A : Arg α) (B : ArgM β) : ArgM (α × β) :=
  { get := fun xs X => match xs with
      | x :: r => match A.get x with
        | some a => match B.get r X with
          | some b => some (a, b)
          | none => none
        | none => none
      | [] => none
    can := fun p => A.can p.1 :: B.can p.2
    canX := fun p => B.canX p.2
    ok := by
      intro cfg hc xs X p h
      cases xs with
      | nil => cases h
      | cons x r =>
        simp only at h
        split at h
        · rename_i a ha
          split at h
          · rename_i b hb
            cases h
            have hB := B.ok cfg hc r X b hb
            refine ⟨by simp [hB.len], fun j x' y hx hy => ?_, hB.xlen, hB.xl, hB.x⟩
            cases j with
            | zero => simp at hx hy; subst hx hy; exact A.ok cfg hc x a ha
            | succ j => exact hB.args j x' y (by simpa using hx) (by simpa using hy)
          · cases h
        · cases h }

def isX (k : Nat) : V U → Bool
  | .ptr (.x k') off => Nat.beq k k' && Nat.beq off 0
  | _ => false

theorem isX_eq {k : Nat} {v : V U} (h : isX k v = true) : v = .ptr (.x k) 0 := by
  unfold isX at h
  split at h
  · rw [Bool.and_eq_true] at h
    rw [Nat.eq_of_beq_eq_true h.1, Nat.eq_of_beq_eq_true h.2]
  · cases h

/-- The address of the object of number k. -/
def ArgM.obj {α β : Type} (k : Nat) (A : ObjL α) (B : ArgM β) : ArgM (α × β) :=
  { get := fun xs X => match xs, X with
      | x :: r, cs :: X' => bif isX k x then match A.get cs with
        | some a => match B.get r X' with
          | some b => some (a, b)
          | none => none
        | none => none
        else none
      | _, _ => none
    can := fun p => .ptr (.x k) 0 :: B.can p.2
    canX := fun p => A.can p.1 :: B.canX p.2
    ok := by
      intro cfg hc xs X p h
      split at h
      · rename_i x r cs X'
        cases hx : isX k x with
        | false => rw [hx] at h; cases h
        | true =>
          rw [hx] at h
          simp only [cond_true] at h
          have ex := isX_eq hx
          subst ex
          split at h
          · rename_i a ha
            split at h
            · rename_i b hb
              cases h
              have hB := B.ok cfg hc r X' b hb
              have hA := (A.ok cs a ha).get
              refine ⟨by simp [hB.len], fun j x' y hx hy => ?_, by simp [hB.xlen], fun j x' y hx hy => ?_, fun j x' y hx hy i c c' hcc hc' => ?_⟩
              · cases j with
                | zero => simp at hx hy; subst hx hy; exact fun _ _ _ h => h
                | succ j => exact hB.args j x' y (by simpa using hx) (by simpa using hy)
              · cases j with
                | zero => simp at hx hy; subst hx hy; exact hA.1
                | succ j => exact hB.xl j x' y (by simpa using hx) (by simpa using hy)
              · cases j with
                | zero =>
                  simp at hx hy
                  subst hx hy
                  have hw := hA.2 i c c' hcc hc'
                  intro g v hr
                  exact better_wk (cfg := cfg) hw g (fun _ => false) v hr
                | succ j => exact hB.x j x' y (by simpa using hx) (by simpa using hy) i c c' hcc hc'
            · cases h
          · cases h
      · cases h }

/-- What is known of a function of typed arguments, objects among them. -/
def fsX {α : Type} (A : ArgM α) (pre : α → List Prop) (res : α → V U) (resX : α → List (List (C U))) : Fs U :=
  { fn := fun xs X => match A.get xs X with
      | some a => some (pre a, res a, resX a)
      | none => none }

theorem contract_fsX {Γ : Known U} {α : Type} {A : ArgM α} {pre : α → List Prop} {res : α → V U} {resX : α → List (List (C U))} (ok : CfgOk P cfg) (henc : cfg.enc = enc) (hΓ : ∀ f s, Γ f = some s → Contract P cfg f s) {f : FuncId} {fn : Func} (lv : Lives U)
    (hf : P.funcs[f]? = some fn) (hb : fn.body = some (cd fn [])) (hname : (fn.name == "runtime.NumGoroutine") = false) (hn : ∀ a, (A.can a).length ≤ fn.ntmps)
    (hbody : ∀ a, All (pre a) → awp cfg Γ (drawOk cfg Γ) fn.ntmps lv (cd fn []) (entry (A.can a) (A.canX a)) (EndsQ cfg fn.ntmps fn.results.toList (res a) (resX a))) : Contract P cfg f (fsX A pre res resX) := by
  refine contract_of ok hΓ (drawOk_sound ok hΓ) lv hf hb hname ?_
  intro args X ps r X' hs hps
  unfold fsX at hs
  simp only at hs
  split at hs
  · rename_i a ha
    cases hs
    exact ⟨A.can a, A.canX a, A.ok cfg henc args X a ha, hn a, hbody a hps⟩
  · cases hs

theorem contractX_flat {l : List (FuncId × Fs U)} {α : Type} {A : ArgM α} {pre : α → Prop} {res : α → V U} {resX : α → List (List (C U))} (ok : CfgOk P cfg) (henc : cfg.enc = enc) (hl : KnowOk P cfg l) {f : FuncId} {fn : Func} (lv : Lives U)
    (hf : P.funcs[f]? = some fn) (hb : fn.body = some (cd fn [])) (hname : (fn.name == "runtime.NumGoroutine") = false) (n : Nat) (hn : ∀ a, (A.can a).length = n) (hn' : n ≤ fn.ntmps)
    (hbody : ∀ a, pre a → awp cfg (know l) (drawOk cfg (know l)) fn.ntmps lv (cd fn []) (entry (A.can a) (A.canX a)) (EndsQ cfg fn.ntmps fn.results.toList (res a) (resX a))) : Contract P cfg f (fsX A (fun a => [pre a]) res resX) :=
  contract_fsX ok henc (know_ok hl) lv hf hb hname (fun a => by rw [hn]; exact hn') (fun a h => hbody a h.1)

end Go.AM
