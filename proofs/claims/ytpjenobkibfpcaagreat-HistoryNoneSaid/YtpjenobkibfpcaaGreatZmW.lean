import Derived.Test.YtpjenobkibfpcaaGreatZmV
set_option linter.unusedSimpArgs false
set_option linter.unusedVariables false
namespace Go.AM
theorem bif_tl {a b : Bool} : ((bif a then true else b) = true) = (a = true ∨ b = true) := by cases a <;> simp
theorem bif_fr {a b : Bool} : ((bif a then b else false) = true) = (a = true ∧ b = true) := by cases a <;> simp
theorem bif_tlf {a b : Bool} : ((bif a then true else b) = false) = (a = false ∧ b = false) := by cases a <;> simp
theorem bif_frf {a b : Bool} : ((bif a then b else false) = false) = (a = false ∨ b = false) := by cases a <;> simp
theorem vcS : (∀ {a b : Bool}, ((bif a then true else b) = true) = (a = true ∨ b = true)) ∧ (∀ {a b : Bool}, ((bif a then b else false) = true) = (a = true ∧ b = true)) ∧
    (∀ {a b : Bool}, ((bif a then true else b) = false) = (a = false ∧ b = false)) ∧ (∀ {a b : Bool}, ((bif a then b else false) = false) = (a = false ∨ b = false)) ∧
    (∀ (b : Bool), ((!b) = true) = (b = false)) ∧ (∀ (b : Bool), ((!b) = false) = (b = true)) ∧ (∀ {p : Prop} [Decidable p], (decide p = true) = p) ∧ (∀ {p : Prop} {_ : Decidable p}, decide p = false ↔ ¬p) ∧
    (∀ {α : Type} [BEq α] [LawfulBEq α] {a b : α}, (a == b) = true ↔ a = b) ∧ (∀ {α : Type} [BEq α] [LawfulBEq α] {a b : α}, (a == b) = false ↔ a ≠ b) ∧
    (∀ {α : Type} [BEq α] [LawfulBEq α] {a b : α}, (a != b) = true ↔ a ≠ b) ∧ (∀ {α : Type} (a b : α), (a ≠ b) = ¬a = b) ∧ (∀ {α : Type} [BEq α] [LawfulBEq α] {a b : α}, (a != b) = false ↔ a = b) ∧
    (∀ (a b : Bool), ((a || b) = true) = (a = true ∨ b = true)) ∧ (∀ (a b : Bool), ((a && b) = true) = (a = true ∧ b = true)) ∧ (∀ {x y : Bool}, (x || y) = false ↔ x = false ∧ y = false) ∧ (∀ {x y : Bool}, (x && y) = false ↔ x = true → y = false) :=
  ⟨bif_tl, bif_fr, bif_tlf, bif_frf, Bool.not_eq_true', Bool.not_eq_false', decide_eq_true_eq, decide_eq_false_iff_not, beq_iff_eq, beq_eq_false_iff_ne, bne_iff_ne, ne_eq, bne_eq_false_iff_eq, Bool.or_eq_true, Bool.and_eq_true, Bool.or_eq_false_iff, Bool.and_eq_false_imp⟩

abbrev Tr (p : Prop) : Prop := p → p
theorem vcT : (∀ {p : Prop}, Tr p = True) ∧ (∀ {p : Prop}, (True ∧ p) = p) ∧ (∀ {p : Prop}, (p ∧ True) = p) ∧ (∀ {p : Prop}, (p → p) = True) ∧ (∀ {p : Prop}, (True → p) = p) ∧ (∀ {p : Prop}, (p → True) = True) :=
  ⟨by simp, by simp, by simp, by simp, by simp, by simp⟩
end Go.AM
namespace Go.AM
variable {P : Program} {cfg : Cfg U}

def knowF : List (FuncId × Fs U) → FuncId → Option (Fs U)
  | [], _ => none
  | (f, s) :: r, k => bif Nat.beq k f then some s else knowF r k
def know (l : List (FuncId × Fs U)) : Known U := ⟨knowF l, false, false⟩
def knowW (l : List (FuncId × Fs U)) : Known U := ⟨knowF l, true, false⟩
def knowM (l : List (FuncId × Fs U)) : Known U := ⟨knowF l, false, true⟩

def KnowOk (P : Program) (cfg : Cfg U) : List (FuncId × Fs U) → Prop
  | [] => True
  | (f, s) :: r => Contract P cfg f s ∧ KnowOk P cfg r

theorem know_ok : ∀ {l : List (FuncId × Fs U)}, KnowOk P cfg l → ∀ f s, knowF l f = some s → Contract P cfg f s
  | [], _, f, s, h => by cases h
  | (f', s') :: r, hk, f, s, h => by
    unfold knowF at h
    cases e : Nat.beq f f' with
    | true =>
      rw [e] at h
      cases h
      rw [Nat.eq_of_beq_eq_true e]
      exact hk.1
    | false =>
      rw [e] at h
      exact know_ok hk.2 f s h

theorem contract_flat {l : List (FuncId × Fs U)} {α : Type} {A : ArgL α} {pre : α → Prop} {res : α → V U} (ok : CfgOk P cfg) (henc : cfg.enc = enc) (hl : KnowOk P cfg l) {f : FuncId} {fn : Func} (lv : Lives U)
    (hf : P.funcs[f]? = some fn) (hb : fn.body = some (cd fn [])) (hname : (fn.name == "runtime.NumGoroutine") = false) (n : Nat) (hn : ∀ a, (A.can a).length = n) (hn' : n ≤ fn.ntmps)
    (hbody : ∀ a, pre a → awp cfg (know l) (drawOk cfg (know l)) fn.ntmps lv (cd fn []) (entry (A.can a) []) (EndsQ cfg fn.ntmps fn.results.toList (res a) [])) : Contract P cfg f (fs A (fun a => [pre a]) res) :=
  contract_fs ok henc (know_ok hl) lv hf hb hname (fun a => by rw [hn]; exact hn') (fun a h => hbody a h.1)

theorem contract_flatW {l : List (FuncId × Fs U)} {α : Type} {A : ArgL α} {pre : α → Prop} {res : α → V U} (ok : CfgOk P cfg) (henc : cfg.enc = enc) (hl : KnowOk P cfg l) {f : FuncId} {fn : Func} (lv : Lives U)
    (hf : P.funcs[f]? = some fn) (hb : fn.body = some (cd fn [])) (hname : (fn.name == "runtime.NumGoroutine") = false) (n : Nat) (hn : ∀ a, (A.can a).length = n) (hn' : n ≤ fn.ntmps)
    (hbody : ∀ a, pre a → awp cfg (knowW l) (drawOk cfg (knowW l)) fn.ntmps lv (cd fn []) (entry (A.can a) []) (EndsQ cfg fn.ntmps fn.results.toList (res a) [])) : Contract P cfg f (fs A (fun a => [pre a]) res) :=
  contract_fs ok henc (know_ok hl) lv hf hb hname (fun a => by rw [hn]; exact hn') (fun a h => hbody a h.1)

theorem contract_flatN {l : List (FuncId × Fs U)} {α : Type} {A : ArgL α} {pre : α → Prop} {cs : α → List (C U)} (ok : CfgOk P cfg) (henc : cfg.enc = enc) (hl : KnowOk P cfg l) {f : FuncId} {fn : Func} (lv : Lives U)
    (hf : P.funcs[f]? = some fn) (hb : fn.body = some (cd fn [])) (hname : (fn.name == "runtime.NumGoroutine") = false) (n : Nat) (hn : ∀ a, (A.can a).length = n) (hn' : n ≤ fn.ntmps)
    (hbody : ∀ a, pre a → awp cfg (know l) (drawOk cfg (know l)) fn.ntmps lv (cd fn []) (entry (A.can a) []) (EndsQN cfg fn.ntmps fn.results.toList (cs a))) : Contract P cfg f (fsN A (fun a => [pre a]) cs) :=
  contract_fsN ok henc (know_ok hl) lv hf hb hname (fun a => by rw [hn]; exact hn') (fun a h => hbody a h.1)

theorem contract_rec {l : List (FuncId × Fs U)} {α : Type} {A : ArgL α} {pre : α → Prop} {μ : α → Nat} {res : α → V U} (ok : CfgOk P cfg) (henc : cfg.enc = enc) (hl : KnowOk P cfg l) {f : FuncId} {fn : Func} (lv : Lives U)
    (hf : P.funcs[f]? = some fn) (hb : fn.body = some (cd fn [])) (hname : (fn.name == "runtime.NumGoroutine") = false) (n : Nat) (hn : ∀ a, (A.can a).length = n) (hn' : n ≤ fn.ntmps)
    (hbody : ∀ N a, pre a → μ a < N + 1 → awp cfg (know ((f, fs A (fun a => [pre a, μ a < N]) res) :: l)) (drawOk cfg (know ((f, fs A (fun a => [pre a, μ a < N]) res) :: l))) fn.ntmps lv (cd fn []) (entry (A.can a) []) (EndsQ cfg fn.ntmps fn.results.toList (res a) [])) :
    Contract P cfg f (fs A (fun a => [pre a]) res) := by
  have key : ∀ N, Contract P cfg f (fs A (fun a => [pre a, μ a < N]) res) := by
    intro N
    induction N with
    | zero =>
      refine contract_mk ⟨fn, hf, by rw [hb]; rfl, hname⟩ rfl ?_
      intro args X ps r X' hs hps
      exfalso
      unfold fs at hs
      simp only at hs
      split at hs
      · split at hs
        · cases hs
          exact absurd hps.2.1 (by omega)
        · cases hs
      · cases hs
    | succ N ih => exact contract_fs (Γ := know ((f, fs A (fun a => [pre a, μ a < N]) res) :: l)) ok henc (know_ok ⟨ih, hl⟩) lv hf hb hname (fun a => by rw [hn]; exact hn') (fun a h => hbody N a h.1 h.2.1)
  refine contract_mk (key 0).1 rfl ?_
  intro args X ps r X' hs hps
  unfold fs at hs
  simp only at hs
  split at hs
  · split at hs
    · rename_i a ha
      cases hs
      have e : (fs A (fun x => [pre x, μ x < μ a + 1]) res).fn args [] = some ([pre a, μ a < μ a + 1], res a, []) := by
        unfold fs
        simp only [ha]
      exact (key (μ a + 1)).one rfl args [] _ _ [] e ⟨hps.1, Nat.lt_succ_self _, trivial⟩
    · cases hs
  · cases hs
theorem fs_less {α : Type} {A : ArgL α} {pre : α → Prop} {μ : α → Nat} {res : α → V U} {f : FuncId} (h0 : ∃ fn, P.funcs[f]? = some fn ∧ fn.body.isSome = true ∧ (fn.name == "runtime.NumGoroutine") = false)
    (key : ∀ N, Contract P cfg f (fs A (fun a => [pre a, μ a < N]) res)) : Contract P cfg f (fs A (fun a => [pre a]) res) := by
  refine contract_mk h0 rfl ?_
  intro args X ps r X' hs hps
  unfold fs at hs
  simp only at hs
  split at hs
  · split at hs
    · rename_i a ha
      cases hs
      have e : (fs A (fun x => [pre x, μ x < μ a + 1]) res).fn args [] = some ([pre a, μ a < μ a + 1], res a, []) := by
        unfold fs
        simp only [ha]
      exact (key (μ a + 1)).one rfl args [] _ _ [] e ⟨hps.1, Nat.lt_succ_self _, trivial⟩
    · cases hs
  · cases hs

theorem fs_zero {α : Type} {A : ArgL α} {pre : α → Prop} {μ : α → Nat} {res : α → V U} {f : FuncId} (h0 : ∃ fn, P.funcs[f]? = some fn ∧ fn.body.isSome = true ∧ (fn.name == "runtime.NumGoroutine") = false) :
    Contract P cfg f (fs A (fun a => [pre a, μ a < 0]) res) := by
  refine contract_mk h0 rfl ?_
  intro args X ps r X' hs hps
  exfalso
  unfold fs at hs
  simp only at hs
  split at hs
  · split at hs
    · cases hs
      exact absurd hps.2.1 (by omega)
    · cases hs
  · cases hs

theorem contract_mut2 {l : List (FuncId × Fs U)} {α β : Type} {A : ArgL α} {B : ArgL β} {preA : α → Prop} {preB : β → Prop} {μA : α → Nat} {μB : β → Nat} {resA : α → V U} {resB : β → V U} (ok : CfgOk P cfg) (henc : cfg.enc = enc) (hl : KnowOk P cfg l) {f f' : FuncId} {fn fn' : Func}
    (lv lv' : Lives U) (hf : P.funcs[f]? = some fn) (hf' : P.funcs[f']? = some fn') (hb : fn.body = some (cd fn [])) (hb' : fn'.body = some (cd fn' [])) (hname : (fn.name == "runtime.NumGoroutine") = false) (hname' : (fn'.name == "runtime.NumGoroutine") = false)
    (n n' : Nat) (hn : ∀ a, (A.can a).length = n) (hn' : ∀ a, (B.can a).length = n') (hle : n ≤ fn.ntmps) (hle' : n' ≤ fn'.ntmps)
    (hbody : ∀ N a, preA a → μA a < N + 1 → awp cfg (know ((f, fs A (fun a => [preA a, μA a < N]) resA) :: (f', fs B (fun a => [preB a, μB a < N]) resB) :: l)) (drawOk cfg (know ((f, fs A (fun a => [preA a, μA a < N]) resA) :: (f', fs B (fun a => [preB a, μB a < N]) resB) :: l))) fn.ntmps lv (cd fn []) (entry (A.can a) []) (EndsQ cfg fn.ntmps fn.results.toList (resA a) []))
    (hbody' : ∀ N a, preB a → μB a < N + 1 → awp cfg (know ((f, fs A (fun a => [preA a, μA a < N]) resA) :: (f', fs B (fun a => [preB a, μB a < N]) resB) :: l)) (drawOk cfg (know ((f, fs A (fun a => [preA a, μA a < N]) resA) :: (f', fs B (fun a => [preB a, μB a < N]) resB) :: l))) fn'.ntmps lv' (cd fn' []) (entry (B.can a) []) (EndsQ cfg fn'.ntmps fn'.results.toList (resB a) [])) :
    Contract P cfg f (fs A (fun a => [preA a]) resA) ∧ Contract P cfg f' (fs B (fun a => [preB a]) resB) := by
  have h0 : ∃ fn, P.funcs[f]? = some fn ∧ fn.body.isSome = true ∧ (fn.name == "runtime.NumGoroutine") = false := ⟨fn, hf, by rw [hb]; rfl, hname⟩
  have h0' : ∃ fn, P.funcs[f']? = some fn ∧ fn.body.isSome = true ∧ (fn.name == "runtime.NumGoroutine") = false := ⟨fn', hf', by rw [hb']; rfl, hname'⟩
  have key : ∀ N, Contract P cfg f (fs A (fun a => [preA a, μA a < N]) resA) ∧ Contract P cfg f' (fs B (fun a => [preB a, μB a < N]) resB) := by
    intro N
    induction N with
    | zero => exact ⟨fs_zero h0, fs_zero h0'⟩
    | succ N ih =>
      exact ⟨contract_fs (Γ := know ((f, fs A (fun a => [preA a, μA a < N]) resA) :: (f', fs B (fun a => [preB a, μB a < N]) resB) :: l)) ok henc (know_ok ⟨ih.1, ih.2, hl⟩) lv hf hb hname (fun a => by rw [hn]; exact hle) (fun a h => hbody N a h.1 h.2.1),
        contract_fs (Γ := know ((f, fs A (fun a => [preA a, μA a < N]) resA) :: (f', fs B (fun a => [preB a, μB a < N]) resB) :: l)) ok henc (know_ok ⟨ih.1, ih.2, hl⟩) lv' hf' hb' hname' (fun a => by rw [hn']; exact hle') (fun a h => hbody' N a h.1 h.2.1)⟩
  exact ⟨fs_less h0 fun N => (key N).1, fs_less h0' fun N => (key N).2⟩
end Go.AM
