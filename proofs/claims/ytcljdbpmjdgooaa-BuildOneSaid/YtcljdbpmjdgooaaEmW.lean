import Derived.Test.YtcljdbpmjdgooaaEmV
set_option linter.unusedSimpArgs false
set_option linter.unusedVariables false
namespace Go.AM
theorem bif_tl {a b : Bool} : ((bif a then true else b) = true) = (a = true ∨ b = true) := by grind
theorem bif_fr {a b : Bool} : ((bif a then b else false) = true) = (a = true ∧ b = true) := by grind
theorem bif_tlf {a b : Bool} : ((bif a then true else b) = false) = (a = false ∧ b = false) := by grind
theorem bif_frf {a b : Bool} : ((bif a then b else false) = false) = (a = false ∨ b = false) := by grind
theorem vcS : (∀ {a b : Bool}, ((bif a then true else b) = true) = (a = true ∨ b = true)) ∧ (∀ {a b : Bool}, ((bif a then b else false) = true) = (a = true ∧ b = true)) ∧
    (∀ {a b : Bool}, ((bif a then true else b) = false) = (a = false ∧ b = false)) ∧ (∀ {a b : Bool}, ((bif a then b else false) = false) = (a = false ∨ b = false)) ∧
    (∀ (b : Bool), ((!b) = true) = (b = false)) ∧ (∀ (b : Bool), ((!b) = false) = (b = true)) ∧ (∀ {p : Prop} [Decidable p], (decide p = true) = p) ∧ (∀ {p : Prop} {_ : Decidable p}, decide p = false ↔ ¬p) ∧
    (∀ {α : Type} [BEq α] [LawfulBEq α] {a b : α}, (a == b) = true ↔ a = b) ∧ (∀ {α : Type} [BEq α] [LawfulBEq α] {a b : α}, (a == b) = false ↔ a ≠ b) ∧
    (∀ {α : Type} [BEq α] [LawfulBEq α] {a b : α}, (a != b) = true ↔ a ≠ b) ∧ (∀ {α : Type} (a b : α), (a ≠ b) = ¬a = b) ∧ (∀ {α : Type} [BEq α] [LawfulBEq α] {a b : α}, (a != b) = false ↔ a = b) ∧
    (∀ (a b : Bool), ((a || b) = true) = (a = true ∨ b = true)) ∧ (∀ (a b : Bool), ((a && b) = true) = (a = true ∧ b = true)) ∧ (∀ {x y : Bool}, (x || y) = false ↔ x = false ∧ y = false) ∧ (∀ {x y : Bool}, (x && y) = false ↔ x = true → y = false) :=
  ⟨bif_tl, bif_fr, bif_tlf, bif_frf, Bool.not_eq_true', Bool.not_eq_false', decide_eq_true_eq, decide_eq_false_iff_not, beq_iff_eq, beq_eq_false_iff_ne, bne_iff_ne, ne_eq, bne_eq_false_iff_eq, Bool.or_eq_true, Bool.and_eq_true, Bool.or_eq_false_iff, Bool.and_eq_false_imp⟩

abbrev Tr (p : Prop) : Prop := p → p
theorem vcT : (∀ {p : Prop}, Tr p = True) ∧ (∀ {p : Prop}, (True ∧ p) = p) ∧ (∀ {p : Prop}, (p ∧ True) = p) ∧ (∀ {p : Prop}, (p → p) = True) ∧ (∀ {p : Prop}, (True → p) = p) ∧ (∀ {p : Prop}, (p → True) = True) :=
  ⟨by simp, by simp, by simp, by simp, by simp, by simp⟩
theorem vcF : (∀ {α : Type} {a : α}, (a = a) = True) ∧ ((true = false) = False) ∧ ((false = true) = False) ∧ (∀ {p : Prop}, (False → p) = True) ∧ (∀ {p : Prop}, (True → p) = p) ∧ (∀ {p : Prop}, (True ∧ p) = p) ∧ (∀ {p : Prop}, (p ∧ True) = p) ∧ ((!true) = false) ∧ ((!false) = true) :=
  ⟨by simp, by simp, by simp, by simp, by simp, by simp, by simp, rfl, rfl⟩
end Go.AM
namespace Go.AM
variable {P : Program} {cfg : Cfg U}

def knowF : List (FuncId × Fs U) → FuncId → Option (Fs U)
  | [], _ => none
  | (f, s) :: r, k => bif Nat.beq k f then some s else knowF r k
def know (l : List (FuncId × Fs U)) : Known U := ⟨knowF l, false, false, false⟩
def knowM (l : List (FuncId × Fs U)) : Known U := ⟨knowF l, false, true, false⟩
def knowA (l : List (FuncId × Fs U)) : Known U := ⟨knowF l, false, false, true⟩

def arnd (s : Fs U) : Fs U := { s with arn := some .arena }

theorem contract_arn {f : FuncId} {s : Fs U} (h : Contract P cfg f s) : Contract P cfg f (arnd s) := ⟨h.1, h.2⟩

def KnowOk (P : Program) (cfg : Cfg U) : List (FuncId × Fs U) → Prop
  | [] => True
  | (f, s) :: r => Contract P cfg f s ∧ KnowOk P cfg r

theorem know_ok : ∀ {l : List (FuncId × Fs U)}, KnowOk P cfg l → ∀ f s, knowF l f = some s → Contract P cfg f s
  | [], _, f, s, h => by cases h
  | (f', s') :: r, hk, f, s, h => by
    unfold knowF at h
    cases e : Nat.beq f f' with
    | true =>
      rw [e] at h
      cases h
      rw [Nat.eq_of_beq_eq_true e]
      exact hk.1
    | false =>
      rw [e] at h
      exact know_ok hk.2 f s h

theorem contract_flat {l : List (FuncId × Fs U)} {α : Type} {A : ArgL α} {pre : α → Prop} {res : α → V U} (ok : CfgOk P cfg) (henc : cfg.enc = enc) (hl : KnowOk P cfg l) {f : FuncId} {fn : Func} (lv : Lives U)
    (hf : P.funcs[f]? = some fn) (hb : fn.body = some (cd fn [])) (hname : (fn.name == "runtime.NumGoroutine") = false) (n : Nat) (hn : ∀ a, (A.can a).length = n) (hn' : n ≤ fn.ntmps)
    (hbody : ∀ a, pre a → awp cfg (know l) (drawOk cfg (know l)) fn.ntmps lv (cd fn []) (entry (A.can a) []) (EndsQ cfg fn.ntmps fn.results.toList (res a) [])) : Contract P cfg f (fs A (fun a => [pre a]) res) :=
  contract_fs ok henc (know_ok hl) lv hf hb hname (fun a => by rw [hn]; exact hn') (fun a h => hbody a h.1)

theorem contract_flatM {l : List (FuncId × Fs U)} {α : Type} {A : ArgL α} {pre : α → Prop} {res : α → V U} (ok : CfgOk P cfg) (henc : cfg.enc = enc) (hl : KnowOk P cfg l) {f : FuncId} {fn : Func} (lv : Lives U)
    (hf : P.funcs[f]? = some fn) (hb : fn.body = some (cd fn [])) (hname : (fn.name == "runtime.NumGoroutine") = false) (n : Nat) (hn : ∀ a, (A.can a).length = n) (hn' : n ≤ fn.ntmps)
    (hbody : ∀ a, pre a → awp cfg (knowM l) (drawOk cfg (knowM l)) fn.ntmps lv (cd fn []) (entry (A.can a) []) (EndsQ cfg fn.ntmps fn.results.toList (res a) [])) : Contract P cfg f (fs A (fun a => [pre a]) res) :=
  contract_fs ok henc (know_ok hl) lv hf hb hname (fun a => by rw [hn]; exact hn') (fun a h => hbody a h.1)

theorem contract_flatA {l : List (FuncId × Fs U)} {α : Type} {A : ArgL α} {pre : α → Prop} {res : α → V U} (ok : CfgOk P cfg) (henc : cfg.enc = enc) (hl : KnowOk P cfg l) {f : FuncId} {fn : Func} (lv : Lives U)
    (hf : P.funcs[f]? = some fn) (hb : fn.body = some (cd fn [])) (hname : (fn.name == "runtime.NumGoroutine") = false) (n : Nat) (hn : ∀ a, (A.can a).length = n) (hn' : n ≤ fn.ntmps)
    (hbody : ∀ a, pre a → awp cfg (knowA l) (drawOk cfg (knowA l)) fn.ntmps lv (cd fn []) (entry (A.can a) []) (EndsQ cfg fn.ntmps fn.results.toList (res a) [])) : Contract P cfg f (fs A (fun a => [pre a]) res) :=
  contract_fs ok henc (know_ok hl) lv hf hb hname (fun a => by rw [hn]; exact hn') (fun a h => hbody a h.1)

theorem contract_flatN {l : List (FuncId × Fs U)} {α : Type} {A : ArgL α} {pre : α → Prop} {cs : α → List (C U)} (ok : CfgOk P cfg) (henc : cfg.enc = enc) (hl : KnowOk P cfg l) {f : FuncId} {fn : Func} (lv : Lives U)
    (hf : P.funcs[f]? = some fn) (hb : fn.body = some (cd fn [])) (hname : (fn.name == "runtime.NumGoroutine") = false) (n : Nat) (hn : ∀ a, (A.can a).length = n) (hn' : n ≤ fn.ntmps)
    (hbody : ∀ a, pre a → awp cfg (know l) (drawOk cfg (know l)) fn.ntmps lv (cd fn []) (entry (A.can a) []) (EndsQN cfg fn.ntmps fn.results.toList [] (cs a))) : Contract P cfg f (fsN A (fun a => [pre a]) cs) :=
  contract_fsN ok henc (know_ok hl) lv hf hb hname (fun a => by grind) (fun a h => hbody a h.1)

theorem contract_rec {l : List (FuncId × Fs U)} {α : Type} {A : ArgL α} {pre : α → Prop} {μ : α → Nat} {res : α → V U} (ok : CfgOk P cfg) (henc : cfg.enc = enc) (hl : KnowOk P cfg l) {f : FuncId} {fn : Func} (lv : Lives U)
    (hf : P.funcs[f]? = some fn) (hb : fn.body = some (cd fn [])) (hname : (fn.name == "runtime.NumGoroutine") = false) (n : Nat) (hn : ∀ a, (A.can a).length = n) (hn' : n ≤ fn.ntmps)
    (hbody : ∀ N a, pre a → μ a < N + 1 → awp cfg (know ((f, fs A (fun a => [pre a, μ a < N]) res) :: l)) (drawOk cfg (know ((f, fs A (fun a => [pre a, μ a < N]) res) :: l))) fn.ntmps lv (cd fn []) (entry (A.can a) []) (EndsQ cfg fn.ntmps fn.results.toList (res a) [])) :
    Contract P cfg f (fs A (fun a => [pre a]) res) := by
  have key : ∀ N, Contract P cfg f (fs A (fun a => [pre a, μ a < N]) res) := by
    intro N
    induction N with
    | zero =>
      refine contract_mk ⟨fn, hf, by rw [hb]; rfl, hname⟩ rfl ?_
      intro args X ps r X' hs hps
      exfalso
      unfold fs at hs
      simp only at hs
      split at hs
      · split at hs
        · cases hs
          exact absurd hps.2.1 (by omega)
        · cases hs
      · cases hs
    | succ N ih => exact contract_fs (Γ := know ((f, fs A (fun a => [pre a, μ a < N]) res) :: l)) ok henc (know_ok ⟨ih, hl⟩) lv hf hb hname (fun a => by grind) (fun a h => hbody N a h.1 h.2.1)
  refine contract_mk (key 0).1 rfl ?_
  intro args X ps r X' hs hps
  unfold fs at hs
  simp only at hs
  split at hs
  · split at hs
    · rename_i a ha
      cases hs
      have e : (fs A (fun x => [pre x, μ x < μ a + 1]) res).fn args [] = some ([pre a, μ a < μ a + 1], res a, []) := by
        unfold fs
        simp only [ha]
      exact (key (μ a + 1)).one rfl args [] _ _ [] e ⟨hps.1, Nat.lt_succ_self _, trivial⟩
    · cases hs
  · cases hs
end Go.AM
