import Derived.Test.YtcljdbpmjdgooaaEmN
set_option linter.unusedSimpArgs false
set_option linter.unusedVariables false
namespace Go.AM
variable {U : Uni} {P : Program}

def lookT {α : Type} : List (Nat × α) → Nat → Option α
  | [], _ => none
  | (a, x) :: r, t => bif Nat.beq a t then some x else lookT r t

theorem lookT_mem {α : Type} : ∀ {l : List (Nat × α)} {t : Nat} {x : α}, lookT l t = some x → (t, x) ∈ l
  | (a, y) :: r, t, x, h => by
    simp only [lookT] at h
    cases hb : Nat.beq a t with
    | true =>
      simp_all
    | false => simp [hb] at h; exact List.mem_cons_of_mem _ (lookT_mem h)

def lookF : List (Nat × Nat × Nat × Nat) → Nat → Nat → Option (Nat × Nat)
  | [], _, _ => none
  | (a, b, x) :: r, t, f => bif Nat.beq a t && Nat.beq b f then some x else lookF r t f

theorem lookF_mem : ∀ {l : List (Nat × Nat × Nat × Nat)} {t f : Nat} {x : Nat × Nat}, lookF l t f = some x → (t, f, x) ∈ l
  | (a, b, y) :: r, t, f, x, h => by
    simp only [lookF] at h
    cases hb : Nat.beq a t && Nat.beq b f with
    | true =>
      simp_all
    | false => simp [hb] at h; exact List.mem_cons_of_mem _ (lookF_mem h)

structure Codec (U : Uni) where
  tyEq : DecidableEq U.Ty
  dflt : (T : U.Ty) → U.El T
  enc : (T : U.Ty) → U.El T → List (C U)
  dec : (T : U.Ty) → List (C U) → Option (U.El T)
  aggT : U.Ty → Bool
  sz : U.Ty → Nat
  bytes : U.Ty → Nat
  aT : (T : U.Ty) → Option (U.El T → AState)
  aOf : (T : U.Ty) → AState → Option (U.El T)
  wT : U.Ty
  wsT : U.Ty
  wI : List Int → List (U.El wT)
  wO : List (U.El wT) → List Int
  wsI : List (List Int) → List (U.El wsT)

structure CodecOk (K : Codec U) : Prop where
  enc_len : ∀ T x, (K.enc T x).length = K.sz T
  enc_plain : ∀ T x c, c ∈ K.enc T x → c.plain = true
  dec_ok : ∀ T cs x, K.dec T cs = some x → cs.length = (K.enc T x).length ∧ ∀ (j : Nat) c c', cs[j]? = some c → (K.enc T x)[j]? = some c' → Wk c c'
  sz_pos : ∀ T, 0 < K.sz T
  bytes_pos : ∀ T, 0 < K.bytes T
  aT : ∀ T f y, K.aT T = some f → K.enc T y = [.slice K.wsT (K.wsI (f y).segs) .unk, .int .i64 (f y).x, .int .i64 (f y).y, .int .i64 (f y).z]
  aOf : ∀ T S y, K.aOf T S = some y → ∃ f, K.aT T = some f ∧ f y = S
  wsI : ∀ L : List (List Int), (K.wsI L).length = L.length ∧ ∀ (i : Nat) l, L[i]? = some l → ∃ y, (K.wsI L)[i]? = some y ∧ K.enc K.wsT y = [.slice K.wT (K.wI l) .unk]
  wI : ∀ l : List Int, (K.wI l).length = l.length ∧ ∀ (i : Nat) x, l[i]? = some x → ∃ y, (K.wI l)[i]? = some y ∧ K.enc K.wT y = [.int .u64 x]
  wO : ∀ l : List (U.El K.wT), (K.wO l).length = l.length ∧ ∀ (i : Nat) y, l[i]? = some y → ∃ x, (K.wO l)[i]? = some x ∧ K.enc K.wT y = [.int .u64 x]
  wB : K.bytes K.wT = 8 ∧ K.bytes K.wsT = 24

structure Tables (U : Uni) where
  el : U.Ty → TypeId
  sl : List (Nat × U.Ty)
  var : List (Nat × Bool × List (C U))
  fld : List (Nat × Nat × Nat × Nat)
  arr : List (Nat × Nat × Nat)
  eqs : List Nat := []

def Tables.cfg (K : Codec U) (T : Tables U) : Cfg U :=
  { tyEq := K.tyEq, dflt := K.dflt, enc := K.enc, dec := K.dec, aggT := K.aggT, sz := K.sz, bytes := K.bytes, elT := T.el,
    slT := lookT T.sl, var := lookT T.var, fld := lookF T.fld, arr := lookT T.arr, eqs := fun t => T.eqs.any (Nat.beq t), aT := K.aT, aOf := K.aOf, wT := K.wT, wsT := K.wsT, wI := K.wI, wO := K.wO, wsI := K.wsI }

def eqC0 : Option (C U) → C U → Bool
  | some (.int k n), .int k' n' => k == k' && n == n'
  | some (.bool b), .bool b' => b == b'
  | some .nils, .nils => true
  | some .nilp, .nilp => true
  | _, _ => false

theorem eqC0_eq {x : Option (C U)} {c : C U} (h : eqC0 x c = true) : x = some c := by
  unfold eqC0 at h
  grind

def eqL0 : List Value → List (C U) → Bool
  | [], [] => true
  | v :: r, c :: s => eqC0 (ofCell v) c && eqL0 r s
  | _, _ => false

theorem eqL0_eq : ∀ {vs : List Value} {cs : List (C U)}, eqL0 vs cs = true → vs.map ofCell = cs.map some
  | [], [], _ => rfl
  | v :: r, c :: s, h => by
    simp only [eqL0, Bool.and_eq_true] at h
    simp [eqC0_eq h.1, eqL0_eq h.2]

def zeroB (ag : Bool) (z : Value) (zs : List (C U)) : Bool :=
  (match z, ag with
    | .agg _, true => true
    | .agg _, false => false
    | .tuple _, _ => false
    | _, false => true
    | _, true => false) && eqL0 z.cells.toList zs

theorem zeroB_ok {ag : Bool} {z : Value} {zs : List (C U)} (h : zeroB ag z zs = true) : Zero ag z zs := by
  unfold zeroB at h
  simp only [Bool.and_eq_true] at h
  obtain ⟨h1, h2⟩ := h
  refine ⟨fun ha => ?_, fun ha => ?_, eqL0_eq h2⟩
  · grind
  · subst ha
    cases z <;> first | rfl | (simp at h1; done)

def kindB : List (C U) → TypeDesc → Bool
  | [.int k _], .int k' => k == k'
  | [.int _ _], _ => false
  | [.bool _], .bool => true
  | [.bool _], _ => false
  | [.nilp], .pointer _ => true
  | [.nilp], _ => false
  | _, _ => true

def varB (P : Program) (x : Nat × Bool × List (C U)) : Bool :=
  match P.info? x.1, P.underlying x.1 with
  | some i, some d => (Nat.beq i.size x.2.2.length && Nat.blt 0 x.2.2.length) && (TypeDesc.ag d == x.2.1) &&
    (match i.zero with | some z => zeroB x.2.1 z x.2.2 | none => false) && (x.2.1 || kindB x.2.2 d) &&
    (match d with
      | .struct fs => fs.toList.all fun fd => (P.info? fd.type).isSome
      | .array _ e => (P.info? e).isSome
      | _ => true)
  | _, _ => false

def slB (P : Program) (el : U.Ty → TypeId) (x : Nat × U.Ty) : Bool :=
  match P.underlying x.1 with
  | some (.slice e) => Nat.beq e (el x.2)
  | _ => false

def fldB (P : Program) (x : Nat × Nat × Nat × Nat) : Bool :=
  match P.underlying x.1 with
  | some (.struct fs) => match fs.toList[x.2.1]? with
    | some fd => Nat.beq fd.offset x.2.2.1 && Nat.beq fd.type x.2.2.2
    | none => false
  | _ => false

def arrB (P : Program) (x : Nat × Nat × Nat) : Bool :=
  match P.underlying x.1 with
  | some (.array n e) => Nat.beq n x.2.1 && Nat.beq e x.2.2
  | _ => false

def eqK (P : Program) (z : Option (C U)) (t : TypeId) : Bool :=
  match z, P.underlying t with
  | some (.int _ _), some (.int _) => true
  | some (.bool _), some .bool => true
  | _, _ => false
def eqB (P : Program) (var : List (Nat × Bool × List (C U))) (t : Nat) : Bool :=
  match P.underlying t with
  | some (.struct fs) => (match lookT var t with
      | some (_, zs) => Nat.beq zs.length fs.size
      | none => true) && !P.stoodInHeld t && !P.eqGuardType P.depth t &&
    ((List.range fs.size).all fun i => match fs[i]? with
      | some f => f.name != "_" && Nat.beq f.offset i && (match lookT var t with
        | some (_, zs) => eqK P zs[i]? f.type
        | none => true)
      | none => false)
  | _ => false

def elB (P : Program) (K : Codec U) (T : Tables U) (t : U.Ty) : Bool :=
  match P.info? (T.el t), lookT T.var (T.el t) with
  | some i, some (_, zs) => Nat.beq i.size (K.sz t) && Nat.beq i.bytes (K.bytes t) && i.zero.isSome && Nat.beq zs.length (K.sz t)
  | _, _ => false

theorem tables_ok {K : Codec U} (ck : CodecOk K) {T : Tables U} (hv : T.var.all (varB P) = true) (hs : (T.sl.all fun x => slB P T.el x && (K.aT x.2).isNone) = true) (hf : T.fld.all (fldB P) = true) (ha : T.arr.all (arrB P) = true)
    (he : ∀ t, elB P K T t = true) (hm : P.follows .mixedOrders = true) (hq : T.eqs.all (eqB P T.var) = true) : CfgOk P (T.cfg K) := by
  refine ⟨ck.enc_len, ck.enc_plain, ck.dec_ok, ck.sz_pos, ck.bytes_pos, ?_, ?_, ?_, ?_, ?_, hm, ?_, ?_, ck.aT, ck.aOf, fun t S h => ?_, ck.wsI, ck.wI, ck.wO, ck.wB⟩
  rotate_right
  · have := List.all_eq_true.1 hs _ (lookT_mem h)
    simp only [Bool.and_eq_true, Option.isNone_iff_eq_none] at this
    exact this.2
  · intro t
    have h := he t
    unfold elB at h
    split at h
    · rename_i i ag zs h1 h2
      simp only [Bool.and_eq_true] at h
      obtain ⟨⟨⟨h3, h4⟩, h5⟩, h6⟩ := h
      obtain ⟨z, hz⟩ := Option.isSome_iff_exists.1 h5
      exact ⟨i, ag, zs, z, h1, Nat.eq_of_beq_eq_true h3, Nat.eq_of_beq_eq_true h4, hz, h2, Nat.eq_of_beq_eq_true h6⟩
    · cases h
  · intro t S h
    have := (Bool.and_eq_true _ _ ▸ List.all_eq_true.1 hs _ (lookT_mem h)).1
    unfold slB at this
    simp only at this
    split at this
    · rename_i e hu
      rw [hu, Nat.eq_of_beq_eq_true this]; rfl
    · cases this
  · intro t ag zs h
    have := List.all_eq_true.1 hv _ (lookT_mem h)
    unfold varB at this
    simp only at this
    split at this
    · rename_i i d hi hu
      simp only [Bool.and_eq_true] at this
      obtain ⟨⟨⟨⟨⟨h1, h2⟩, h3⟩, h4⟩, h5⟩, h6⟩ := this
      split at h4
      · rename_i z hz
        refine ⟨Nat.blt_eq.mp h2, i, z, d, hi, hu, Nat.eq_of_beq_eq_true h1, by simpa using h3, hz, zeroB_ok h4, ?_, ?_, ?_, ?_⟩
        · intro hag k n hzs
          subst hag
          simp only [Bool.false_or] at h5
          subst hzs
          unfold kindB at h5
          split at h5 <;> simp_all
        · intro hag b hzs
          subst hag
          simp only [Bool.false_or] at h5
          subst hzs
          unfold kindB at h5
          split at h5 <;> simp_all
        · intro fs hd
          subst hd
          exact h6
        · intro n e hd
          subst hd
          exact h6
      · cases h4
    · cases this
  · intro s f off t h
    have := List.all_eq_true.1 hf _ (lookF_mem h)
    unfold fldB at this
    simp only at this
    split at this
    · rename_i fs hu
      split at this
      · rename_i fd hfd
        simp only [Bool.and_eq_true] at this
        exact ⟨fs, fd, hu, by simpa using hfd, Nat.eq_of_beq_eq_true this.1, Nat.eq_of_beq_eq_true this.2⟩
      · cases this
    · cases this
  · intro t n e h
    have := List.all_eq_true.1 ha _ (lookT_mem h)
    unfold arrB at this
    simp only at this
    split at this
    · rename_i n' e' hu
      simp only [Bool.and_eq_true] at this
      rw [hu, Nat.eq_of_beq_eq_true this.1, Nat.eq_of_beq_eq_true this.2]
    · cases this

  · intro t ht
    obtain ⟨t', h1, h2⟩ := List.any_eq_true.1 ht
    have e := Nat.eq_of_beq_eq_true h2
    subst e
    have h3 := List.all_eq_true.1 hq _ h1
    unfold eqB at h3
    split at h3
    · rename_i fs hu
      simp only [Bool.and_eq_true, Bool.not_eq_true'] at h3
      obtain ⟨⟨⟨h4, h5⟩, h6⟩, h7⟩ := h3
      refine ⟨fs, hu, fun ag zs hz => ?_, h5, h6, fun i f hf => ?_⟩
      · have hz' : lookT T.var t = some (ag, zs) := hz
        rw [hz'] at h4
        exact Nat.eq_of_beq_eq_true h4
      · have hi := (Array.getElem?_eq_some_iff.1 hf).1
        have h8 := List.all_eq_true.1 h7 i (by simpa using hi)
        rw [hf] at h8
        simp only [Bool.and_eq_true, bne_iff_ne, ne_eq] at h8
        refine ⟨h8.1.1, Nat.eq_of_beq_eq_true h8.1.2, fun ag zs hz => ?_⟩
        have h9 := h8.2
        have hz' : lookT T.var t = some (ag, zs) := hz
        rw [hz'] at h9
        dsimp only at h9
        unfold eqK at h9
        split at h9
        · rename_i e1 e2
          exact ⟨fun _ _ _ => ⟨_, e2⟩, fun _ h => by (rw [e1] at h; cases h)⟩
        · rename_i e1 e2
          exact ⟨fun _ _ h => by (rw [e1] at h; cases h), fun _ _ => e2⟩
        · cases h9
    · cases h3
  · intro t h
    have := List.all_eq_true.1 hv _ (lookT_mem h)
    unfold varB at this
    simp only at this
    split at this
    · rename_i i d hi hu
      simp only [Bool.and_eq_true] at this
      obtain ⟨⟨_, h5⟩, _⟩ := this
      cases d <;> first | exact ⟨_, hu⟩ | (simp [kindB] at h5; done)
    · cases this

end Go.AM
