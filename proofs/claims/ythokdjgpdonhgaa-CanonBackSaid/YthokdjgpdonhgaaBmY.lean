import Derived.Test.YthokdjgpdonhgaaBmW
set_option linter.unusedSimpArgs false
set_option linter.unusedVariables false
namespace Go.AM
variable {P : Program} {cfg : Cfg U}

structure CellR (α : Type) where
  get : List (Tok × LC U) → C U → Option α
  can : α → C U
  canL : α → List (Tok × LC U)
  ok : ∀ (cfg : Cfg U) L c a, get L c = some a → BetterC cfg c (can a) ∧ ∀ y ∈ canL a, lsSet (fun _ => none) L y.1 = some y.2

def cInt (k : IntKind) : CellR Int :=
  { get := fun _ c => match c with
      | .int k' n => if k = k' then some n else none
      | _ => none
    can := fun n => .int k n
    canL := fun _ => []
    ok := by
      intro cfg L c a h
      refine ⟨?_, fun y hy => by cases hy⟩
      split at h
      · split at h
        · rename_i hk; subst hk; cases h; exact fun _ _ h => h
        · cases h
      · cases h }

def tokEq (t : Tok) (k j : Nat) : Bool :=
  match t with
  | .x k' j' => Nat.beq k' k && Nat.beq j' j
  | _ => false

theorem tokEq_eq {t : Tok} {k j : Nat} (h : tokEq t k j = true) : t = .x k j := by
  unfold tokEq at h
  split at h
  · rw [Bool.and_eq_true] at h
    rw [Nat.eq_of_beq_eq_true h.1, Nat.eq_of_beq_eq_true h.2]
  · cases h

def cOwn (T : Ty) (k j : Nat) : CellR (List (El T)) :=
  { get := fun _ c => match c with
      | .nils => some []
      | .slice S l .full => if h : S = T then some (h ▸ l) else none
      | .slice S l (.own t) => if h : S = T then (bif tokEq t k j then some (h ▸ l) else none) else none
      | _ => none
    can := fun l => .slice (U := U) T l (.own (.x k j))
    canL := fun _ => []
    ok := by
      intro cfg L c a h
      refine ⟨?_, fun y hy => by cases hy⟩
      split at h
      · cases h
        intro g v hr
        have h1 := hr.1
        cases h1
        exact ⟨SimC.snil (cfg := cfg) (U := U) T _, fun _ b len cap hv => by cases hv⟩
      · split at h
        · rename_i hT
          subst hT
          cases h
          intro g v hr
          refine ⟨hr.1.tl _, fun _ b len cap hv i h3 h4 => ?_⟩
          have := hr.2 _ _ _ hv
          subst this
          omega
        · cases h
      · split at h
        · rename_i hT
          subst hT
          rename_i t
          cases ht : tokEq t k j with
          | false => rw [ht] at h; cases h
          | true =>
            rw [ht] at h
            have := tokEq_eq ht
            subst this
            cases h
            exact fun _ _ hr => hr
        · cases h
      · cases h }

def cWt (T : Ty) (n : Tok) : CellR (List (El T)) :=
  { get := fun L c => match c with
      | .mref t => if t = n then match lsSet (fun _ => none) L t with
        | some x => if h : x.T = T ∧ x.f = 0 then some (h.1 ▸ x.l) else none
        | none => none
        else none
      | _ => none
    can := fun _ => .mref n
    canL := fun l => [(n, LC.mk (U := U) T l 0)]
    ok := by
      intro cfg L c a h
      split at h
      · rename_i t
        split at h
        · rename_i ht
          subst ht
          split at h
          · rename_i x hx
            split at h
            · rename_i hT
              obtain ⟨T', l, f⟩ := x
              obtain ⟨hT1, hT2⟩ := hT
              simp only at hT1 hT2
              subst hT1 hT2
              cases h
              refine ⟨fun _ _ hr => hr, fun y hy => ?_⟩
              simp only [List.mem_singleton] at hy
              subst hy
              exact hx
            · cases h
          · cases h
        · cases h
      · cases h }

def cWr (T : Ty) (k j : Nat) : CellR (List (El T)) := cWt T (.x k j)

structure ObjL (α : Type) where
  get : List (Tok × LC U) → List (C U) → Option α
  can : α → List (C U)
  canL : α → List (Tok × LC U)
  ok : ∀ (cfg : Cfg U) L cs a, get L cs = some a → (∀ y ∈ canL a, lsSet (fun _ => none) L y.1 = some y.2) ∧ cs.length = (can a).length ∧ ∀ (j : Nat) c c', cs[j]? = some c → (can a)[j]? = some c' → BetterC cfg c c'

def ObjL.nil : ObjL Unit :=
  { get := fun _ cs => match cs with
      | [] => some ()
      | _ :: _ => none
    can := fun _ => []
    canL := fun _ => []
    ok := by
      intro cfg L cs a h
      refine ⟨fun y hy => (by cases hy), ?_⟩
      cases cs with
      | nil => exact ⟨rfl, fun j c c' hc => by simp at hc⟩
      | cons _ _ => cases h }

def ObjL.cons {α β : Type} (A : CellR α) (B : ObjL β) : ObjL (α × β) :=
  { get := fun L cs => match cs with
      | c :: r => match A.get L c with
        | some a => match B.get L r with
          | some b => some (a, b)
          | none => none
        | none => none
      | [] => none
    can := fun p => A.can p.1 :: B.can p.2
    canL := fun p => A.canL p.1 ++ B.canL p.2
    ok := by
      intro cfg L cs p h
      cases cs with
      | nil => cases h
      | cons c r =>
        simp only at h
        split at h
        · rename_i a ha
          split at h
          · rename_i b hb
            cases h
            obtain ⟨h0, h1, h2⟩ := B.ok cfg L r b hb
            obtain ⟨h3, h4⟩ := A.ok cfg L c a ha
            refine ⟨fun y hy => ?_, by simp [h1], fun j x y hx hy => ?_⟩
            · rcases List.mem_append.1 hy with hy | hy
              · exact h4 y hy
              · exact h0 y hy
            cases j with
            | zero => simp at hx hy; subst hx hy; exact h3
            | succ j => exact h2 j x y (by simpa using hx) (by simpa using hy)
          · cases h
        · cases h }

structure ArgM (α : Type) where
  get : List (Tok × LC U) → List (V U) → List (List (C U)) → Option α
  can : α → List (V U)
  canX : α → List (List (C U))
  canL : α → List (Tok × LC U)
  ok : ∀ cfg : Cfg U, cfg.enc = enc → ∀ L xs X a, get L xs X = some a → BetterAll cfg xs (can a) X (canX a) ∧ ∀ y ∈ canL a, lsSet (fun _ => none) L y.1 = some y.2

def ArgM.nil : ArgM Unit :=
  { get := fun _ xs X => match xs, X with
      | [], [] => some ()
      | _, _ => none
    can := fun _ => []
    canX := fun _ => []
    canL := fun _ => []
    ok := by
      intro cfg _ L xs X a h
      split at h
      · exact ⟨BetterAll.refl [] [], fun y hy => by cases hy⟩
      · cases h }

def ArgM.cons {α β : Type} (A : Arg α) (B : ArgM β) : ArgM (α × β) :=
  { get := fun L xs X => match xs with
      | x :: r => match A.get x with
        | some a => match B.get L r X with
          | some b => some (a, b)
          | none => none
        | none => none
      | [] => none
    can := fun p => A.can p.1 :: B.can p.2
    canX := fun p => B.canX p.2
    canL := fun p => B.canL p.2
    ok := by
      intro cfg hc L xs X p h
      cases xs with
      | nil => cases h
      | cons x r =>
        simp only at h
        split at h
        · rename_i a ha
          split at h
          · rename_i b hb
            cases h
            obtain ⟨hB, hBL⟩ := B.ok cfg hc L r X b hb
            refine ⟨?_, hBL⟩
            refine ⟨by simp [hB.len], fun j x' y hx hy => ?_, hB.xlen, hB.xl, hB.x⟩
            cases j with
            | zero => simp at hx hy; subst hx hy; exact A.ok cfg hc x a ha
            | succ j => exact hB.args j x' y (by simpa using hx) (by simpa using hy)
          · cases h
        · cases h }

def isX (k o : Nat) : V U → Bool
  | .ptr (.x k') off => Nat.beq k k' && Nat.beq off o
  | _ => false

theorem isX_eq {k o : Nat} {v : V U} (h : isX k o v = true) : v = .ptr (.x k) o := by
  unfold isX at h
  split at h
  · rw [Bool.and_eq_true] at h
    rw [Nat.eq_of_beq_eq_true h.1, Nat.eq_of_beq_eq_true h.2]
  · cases h

def ArgM.objAt {α β : Type} (k o : Nat) (A : ObjL α) (B : ArgM β) : ArgM (α × β) :=
  { get := fun L xs X => match xs, X with
      | x :: r, cs :: X' => bif isX k o x then match A.get L cs with
        | some a => match B.get L r X' with
          | some b => some (a, b)
          | none => none
        | none => none
        else none
      | _, _ => none
    can := fun p => .ptr (.x k) o :: B.can p.2
    canX := fun p => A.can p.1 :: B.canX p.2
    canL := fun p => A.canL p.1 ++ B.canL p.2
    ok := by
      intro cfg hc L xs X p h
      split at h
      · rename_i x r cs X'
        cases hx : isX k o x with
        | false => rw [hx] at h; cases h
        | true =>
          rw [hx] at h
          simp only [cond_true] at h
          have ex := isX_eq hx
          subst ex
          split at h
          · rename_i a ha
            split at h
            · rename_i b hb
              cases h
              obtain ⟨hB, hBL⟩ := B.ok cfg hc L r X' b hb
              obtain ⟨hAL, hA⟩ := A.ok cfg L cs a ha
              refine ⟨?_, fun y hy => (List.mem_append.1 hy).elim (hAL y) (hBL y)⟩
              refine ⟨by simp [hB.len], fun j x' y hx hy => ?_, by simp [hB.xlen], fun j x' y hx hy => ?_, fun j x' y hx hy i c c' hcc hc' => ?_⟩
              · cases j with
                | zero => simp at hx hy; subst hx hy; exact fun _ _ _ h => h
                | succ j => exact hB.args j x' y (by simpa using hx) (by simpa using hy)
              · cases j with
                | zero => simp at hx hy; subst hx hy; exact hA.1
                | succ j => exact hB.xl j x' y (by simpa using hx) (by simpa using hy)
              · cases j with
                | zero =>
                  simp at hx hy
                  subst hx hy
                  exact hA.2 i c c' hcc hc'
                | succ j => exact hB.x j x' y (by simpa using hx) (by simpa using hy) i c c' hcc hc'
            · cases h
          · cases h
      · cases h }

def ArgM.obj {α β : Type} (k : Nat) (A : ObjL α) (B : ArgM β) : ArgM (α × β) := ArgM.objAt k 0 A B

def fsX {α : Type} (A : ArgM α) (pre : α → List Prop) (res : α → V U) (resX : α → List (List (C U))) : Fs U :=
  { fn := fun xs X => match A.get [] xs X with
      | some a => some (pre a, res a, resX a)
      | none => none }

theorem contract_fsX {Γ : Known U} {α : Type} {A : ArgM α} {pre : α → List Prop} {res : α → V U} {resX : α → List (List (C U))} (ok : CfgOk P cfg) (henc : cfg.enc = enc) (hΓ : ∀ f s, Γ f = some s → Contract P cfg f s) {f : FuncId} {fn : Func} (lv : Lives U)
    (hf : P.funcs[f]? = some fn) (hb : fn.body = some (cd fn [])) (hname : (fn.name == "runtime.NumGoroutine") = false) (hn : ∀ a, (A.can a).length ≤ fn.ntmps)
    (hbody : ∀ a, All (pre a) → awp cfg Γ (drawOk cfg Γ) fn.ntmps lv (cd fn []) (entry (A.can a) (A.canX a)) (EndsQ cfg fn.ntmps fn.results.toList (res a) (resX a))) : Contract P cfg f (fsX A pre res resX) := by
  refine contract_of ok hΓ (drawOk_sound ok hΓ) lv hf hb hname ?_
  intro args X ps r X' hs hps
  unfold fsX at hs
  simp only at hs
  split at hs
  · rename_i a ha
    cases hs
    exact ⟨A.can a, A.canX a, (A.ok cfg henc [] args X a ha).1, hn a, hbody a hps⟩
  · cases hs

theorem contractX_flat {l : List (FuncId × Fs U)} {α : Type} {A : ArgM α} {pre : α → Prop} {res : α → V U} {resX : α → List (List (C U))} (ok : CfgOk P cfg) (henc : cfg.enc = enc) (hl : KnowOk P cfg l) {f : FuncId} {fn : Func} (lv : Lives U)
    (hf : P.funcs[f]? = some fn) (hb : fn.body = some (cd fn [])) (hname : (fn.name == "runtime.NumGoroutine") = false) (n : Nat) (hn : ∀ a, (A.can a).length = n) (hn' : n ≤ fn.ntmps)
    (hbody : ∀ a, pre a → awp cfg (know l) (drawOk cfg (know l)) fn.ntmps lv (cd fn []) (entry (A.can a) (A.canX a)) (EndsQ cfg fn.ntmps fn.results.toList (res a) (resX a))) : Contract P cfg f (fsX A (fun a => [pre a]) res resX) :=
  contract_fsX ok henc (know_ok hl) lv hf hb hname (fun a => by rw [hn]; exact hn') (fun a h => hbody a h.1)

theorem fsX_zero {α : Type} {A : ArgM α} {pre : α → Prop} {μ : α → Nat} {res : α → V U} {resX : α → List (List (C U))} {f : FuncId} (h0 : ∃ fn, P.funcs[f]? = some fn ∧ fn.body.isSome = true ∧ (fn.name == "runtime.NumGoroutine") = false) :
    Contract P cfg f (fsX A (fun a => [pre a, μ a < 0]) res resX) := by
  refine contract_mk h0 rfl ?_
  intro args X ps r X' hs hps
  unfold fsX at hs
  simp only at hs
  split at hs
  · cases hs; exact absurd hps.2.1 (Nat.not_lt_zero _)
  · cases hs

theorem fsX_less {α : Type} {A : ArgM α} {pre : α → Prop} {μ : α → Nat} {res : α → V U} {resX : α → List (List (C U))} {f : FuncId} (h0 : ∃ fn, P.funcs[f]? = some fn ∧ fn.body.isSome = true ∧ (fn.name == "runtime.NumGoroutine") = false)
    (key : ∀ N, Contract P cfg f (fsX A (fun a => [pre a, μ a < N]) res resX)) : Contract P cfg f (fsX A (fun a => [pre a]) res resX) := by
  refine contract_mk h0 rfl ?_
  intro args X ps r X' hs hps hX w g vs E
  unfold fsX at hs
  simp only at hs
  split at hs
  · rename_i a ha
    cases hs
    exact (key (μ a + 1)).one rfl args X [pre a, μ a < μ a + 1] _ _ (by simp only [fsX, ha]) ⟨hps.1, Nat.lt_succ_self _, trivial⟩ hX w g vs E
  · cases hs

def fsXL {α : Type} (A : ArgM α) (pre : α → List Prop) (res : α → V U) (resX : α → List (List (C U))) (resL : α → List (Tok × LC U)) : Fs U :=
  { wr := true
    mkl := true
    fn := fun _ _ => none
    fn2 := fun xs X L => match A.get L xs X with
      | some a => some (pre a, res a, resX a, resL a)
      | none => none }

theorem mem_of_lsSet : ∀ {L : List (Tok × LC U)} {t : Tok} {x : LC U}, lsSet (fun _ => none) L t = some x → (t, x) ∈ L
  | [], t, x, h => by simp [lsSet] at h
  | (a, y) :: L, t, x, h => by
    simp only [lsSet] at h
    split at h
    · rename_i e; subst e; cases h; simp
    · exact List.mem_cons_of_mem _ (mem_of_lsSet h)

theorem contract_fsXL {Γ : Known U} {α : Type} {A : ArgM α} {pre : α → List Prop} {res : α → V U} {resX : α → List (List (C U))} {resL : α → List (Tok × LC U)} (ok : CfgOk P cfg) (henc : cfg.enc = enc) (hΓ : ∀ f s, Γ f = some s → Contract P cfg f s) {f : FuncId} {fn : Func} (lv : Lives U)
    (hf : P.funcs[f]? = some fn) (hb : fn.body = some (cd fn [])) (hname : (fn.name == "runtime.NumGoroutine") = false) (hn : ∀ a, (A.can a).length ≤ fn.ntmps)
    (hbody : ∀ a, All (pre a) → awp cfg Γ (drawOk cfg Γ) fn.ntmps lv (cd fn []) (entryL (A.can a) (A.canX a) (A.canL a)) (EndsQL cfg fn.ntmps fn.results.toList (res a) (resX a) (resL a))) : Contract P cfg f (fsXL A pre res resX resL) := by
  refine contract_ofL ok hΓ (drawOk_sound ok hΓ) lv hf hb hname ?_
  intro args X L ps r X' L' hs hps
  unfold fsXL at hs
  simp only at hs
  split at hs
  · rename_i a ha
    cases hs
    obtain ⟨h1, h2⟩ := A.ok cfg henc L args X a ha
    exact ⟨A.can a, A.canX a, A.canL a, h1, fun t x hx => h2 _ (mem_of_lsSet hx), hn a, hbody a hps⟩
  · cases hs

theorem contractXL_flat {l : List (FuncId × Fs U)} {α : Type} {A : ArgM α} {pre : α → Prop} {res : α → V U} {resX : α → List (List (C U))} {resL : α → List (Tok × LC U)} (ok : CfgOk P cfg) (henc : cfg.enc = enc) (hl : KnowOk P cfg l) {f : FuncId} {fn : Func} (lv : Lives U)
    (hf : P.funcs[f]? = some fn) (hb : fn.body = some (cd fn [])) (hname : (fn.name == "runtime.NumGoroutine") = false) (n : Nat) (hn : ∀ a, (A.can a).length = n) (hn' : n ≤ fn.ntmps)
    (hbody : ∀ a, pre a → awp cfg (know l) (drawOk cfg (know l)) fn.ntmps lv (cd fn []) (entryL (A.can a) (A.canX a) (A.canL a)) (EndsQL cfg fn.ntmps fn.results.toList (res a) (resX a) (resL a))) : Contract P cfg f (fsXL A (fun a => [pre a]) res resX resL) :=
  contract_fsXL (Γ := know l) ok henc (know_ok hl) lv hf hb hname (fun a => by rw [hn]; exact hn') (fun a h => hbody a h.1)

theorem fsXL_zero {α : Type} {A : ArgM α} {pre : α → Prop} {μ : α → Nat} {res : α → V U} {resX : α → List (List (C U))} {resL : α → List (Tok × LC U)} {f : FuncId} (h0 : ∃ fn, P.funcs[f]? = some fn ∧ fn.body.isSome = true ∧ (fn.name == "runtime.NumGoroutine") = false) :
    Contract P cfg f (fsXL A (fun a => [pre a, μ a < 0]) res resX resL) := by
  refine ⟨h0, fun args X L ps r X' L' he hps hX w g vs E => ?_⟩
  simp only [fsXL] at he
  split at he
  · cases he
    exact absurd hps.2.1 (Nat.not_lt_zero _)
  · cases he

theorem fsXL_less {α : Type} {A : ArgM α} {pre : α → Prop} {μ : α → Nat} {res : α → V U} {resX : α → List (List (C U))} {resL : α → List (Tok × LC U)} {f : FuncId}
    (key : ∀ N, Contract P cfg f (fsXL A (fun a => [pre a, μ a < N]) res resX resL)) : Contract P cfg f (fsXL A (fun a => [pre a]) res resX resL) := by
  refine ⟨(key 0).1, fun args X L ps r X' L' he hps hX w g vs E => ?_⟩
  simp only [fsXL] at he
  split at he
  · rename_i a ha
    cases he
    exact (key (μ a + 1)).2 args X L [pre a, μ a < μ a + 1] _ _ _ (by simp only [fsXL, ha]) ⟨hps.1, Nat.lt_succ_self _, trivial⟩ hX w g vs E
  · cases he

end Go.AM
