import Derived.Test.YtlahjnelghpmeaaB20c
import Derived.Test.YtlahjnelghpmeaaAmZ
import Derived.Test.YtlahjnelghpmeaaD20
import Derived.Test.YtlahjnelghpmeaaRB07
import Derived.Test.YtlahjnelghpmeaaG07
set_option linter.unusedSimpArgs false
set_option linter.unusedVariables false
namespace Go.AM

noncomputable def eqX {α : Type} (a b : α) : Bool := @decide (a = b) (Classical.propDecidable _)
theorem eqX_iff {α : Type} {a b : α} : eqX a b = true ↔ a = b := by unfold eqX; exact @decide_eq_true_iff _ (Classical.propDecidable _)
end Go.AM

namespace Go.AM.Ytlahjnelghpmeaa
open Go.AM Go.Proofs


theorem massK_drop (n : Nat) : ∀ (l : List Tree), massK (l.drop n) ≤ massK l := by
  induction n with
  | zero => intro l; simp
  | succ n ih =>
    intro l
    cases l with
    | nil => simp
    | cons t r => simp only [List.drop_succ_cons, massK]; have := ih r; omega

theorem massK_take (n : Nat) : ∀ (l : List Tree), massK (l.take n) ≤ massK l := by
  induction n with
  | zero => intro l; simp [massK]
  | succ n ih =>
    intro l
    cases l with
    | nil => simp
    | cons t r => simp only [List.take_succ_cons, massK]; have := ih r; omega

end Go.AM.Ytlahjnelghpmeaa

namespace Go.AM.Ytlahjnelghpmeaa
open Go.AM Go.Proofs

theorem eqX_no {α : Type} {a b : α} (h : ¬ a = b) : eqX a b = false := by rw [← Bool.not_eq_true, eqX_iff]; exact h

end Go.AM.Ytlahjnelghpmeaa

namespace Go.AM

def normsT (l : List Tree) : List Tree := l.map normT





end Go.AM

namespace Go.AM

def setPad {α : Type} (z : α) (l : List α) (i : Nat) (x : α) : List α := (l ++ List.replicate (i + 1 - l.length) z).set i x

def wsD (tw : List Int) : List WEdit → List Int → Option (List Int)
  | [], out => some out
  | w :: r, out => if mix 0 (tw.getD w.at_.toNat 0) w.mask = w.old then wsD tw r (setPad 0 out w.at_.toNat (mix (tw.getD w.at_.toNat 0) w.new w.mask)) else none

noncomputable def goneD (l rest : List Tree) : Bool := decide (l.length ≤ rest.length) && eqX (normsT l) (normsT (rest.take l.length))

def endD (r : Option (List Tree × List Tree)) : Option (List Tree) := r.bind fun x => if x.2.length = 0 then some x.1 else none

def nrD (r : Bool) (t : Tree) : Tree := if r then normT t else t

mutual
noncomputable def doE (r : Bool) : Edit → Tree → Option Tree
  | .mk k o n w ks l os, t =>
    (if k = 0 then some t
    else if k = 1 then (if sameT (normT o) (normT t) = true then some n else none)
    else if k = 2 then (if t.kind = 1 then (wsD t.words w t.words).bind fun a => (doKs r t.kids ks t.kids).map fun b => .mk 1 a b else none)
    else if k = 3 then (if t.kind = l then (endD (doOs r os t.kids [])).map fun b => .mk l [] b else none)
    else none).map (nrD r)
noncomputable def doKs (r : Bool) (tk : List Tree) : List (KidOf Edit) → List Tree → Option (List Tree)
  | [], out => some out
  | k :: s, out => (doKid r tk k).bind fun u => doKs r tk s (setPad Tree.nil out k.at_.toNat u)
noncomputable def doKid (r : Bool) (tk : List Tree) : KidOf Edit → Option Tree
  | ⟨a, e⟩ => doE r e (tk.getD a.toNat Tree.nil)
noncomputable def doOs (r : Bool) : List (OpOf Edit) → List Tree → List Tree → Option (List Tree × List Tree)
  | [], rest, out => some (out, rest)
  | o :: s, rest, out => (doOp r o rest out).bind fun x => doOs r s x.2 x.1
noncomputable def doOp (r : Bool) : OpOf Edit → List Tree → List Tree → Option (List Tree × List Tree)
  | ⟨k, n, l, e⟩, rest, out =>
    if k = 0 then (if n.toNat ≤ rest.length then some (out ++ rest.take n.toNat, rest.drop n.toNat) else none)
    else if k = 1 then (if goneD l rest = true then some (out, rest.drop l.length) else none)
    else if k = 2 then some (out ++ l, rest)
    else if rest.length = 0 then none else (doE r e (rest.getD 0 Tree.nil)).map fun u => (out ++ [u], rest.drop 1)
end

theorem doE_at (r : Bool) (e : Edit) (t : Tree) : doE r e t = (if e.kind = 0 then some t
    else if e.kind = 1 then (if sameT (normT e.old) (normT t) = true then some e.new else none)
    else if e.kind = 2 then (if t.kind = 1 then (wsD t.words e.words t.words).bind fun a => (doKs r t.kids e.kids t.kids).map fun b => .mk 1 a b else none)
    else if e.kind = 3 then (if t.kind = e.list then (endD (doOs r e.ops t.kids [])).map fun b => .mk e.list [] b else none)
    else none).map (nrD r) := by cases e; rfl
noncomputable def rawE (r : Bool) (e : Edit) (t : Tree) : Option Tree :=
  if e.kind = 0 then some t
  else if e.kind = 1 then (if sameT (normT e.old) (normT t) = true then some e.new else none)
  else if e.kind = 2 then (if t.kind = 1 then (wsD t.words e.words t.words).bind fun a => (doKs r t.kids e.kids t.kids).map fun b => .mk 1 a b else none)
  else if e.kind = 3 then (if t.kind = e.list then (endD (doOs r e.ops t.kids [])).map fun b => .mk e.list [] b else none)
  else none
theorem doE_raw (r : Bool) (e : Edit) (t : Tree) : doE r e t = (rawE r e t).map (nrD r) := doE_at r e t
theorem doKid_at (r : Bool) (tk : List Tree) (k : Kid) : doKid r tk k = doE r k.e (tk.getD k.at_.toNat Tree.nil) := by cases k; rfl
theorem doOp_at (r : Bool) (o : Op) (rest out : List Tree) : doOp r o rest out = if o.kind = 0 then (if o.n.toNat ≤ rest.length then some (out ++ rest.take o.n.toNat, rest.drop o.n.toNat) else none)
    else if o.kind = 1 then (if goneD o.l rest = true then some (out, rest.drop o.l.length) else none)
    else if o.kind = 2 then some (out ++ o.l, rest)
    else if rest.length = 0 then none else (doE r o.e (rest.getD 0 Tree.nil)).map fun u => (out ++ [u], rest.drop 1) := by cases o; rfl


noncomputable def strD (r : Bool) (e : Edit) (t : Tree) : Option Tree :=
  if t.kind = 1 then (wsD t.words e.words t.words).bind fun a => (doKs r t.kids e.kids t.kids).map fun b => .mk 1 a b else none
noncomputable def lstD (r : Bool) (e : Edit) (t : Tree) : Option (List Tree × List Tree) := if t.kind = e.list then doOs r e.ops t.kids [] else none
def orNil (o : Option Tree) : Tree := o.getD Tree.nil
def lstT (e : Edit) (o : Option (List Tree × List Tree)) : Tree := match o with | some x => .mk e.list [] x.1 | none => Tree.nil
noncomputable def oneT (e : Edit) (t : Tree) : Tree :=
  if e.kind = 0 then t else if e.kind = 1 then e.new else if e.kind = 2 then orNil (strD false e t) else if e.kind = 3 then lstT e (lstD false e t) else Tree.nil

theorem nrD_false (o : Option Tree) : o.map (nrD false) = o := by cases o <;> rfl
theorem oneT_some {e : Edit} {t u : Tree} (h : doE false e t = some u) : oneT e t = u := by
  rw [doE_at, nrD_false] at h
  unfold oneT
  split
  · rename_i h0; rw [if_pos h0] at h; exact Option.some.inj h
  · rename_i h0; rw [if_neg h0] at h
    split
    · rename_i h1; rw [if_pos h1] at h
      split at h
      · exact Option.some.inj h
      · cases h
    · rename_i h1; rw [if_neg h1] at h
      split
      · rename_i h2; rw [if_pos h2] at h
        unfold orNil strD
        rw [h]; rfl
      · rename_i h2; rw [if_neg h2] at h
        split
        · rename_i h3; rw [if_pos h3] at h
          unfold lstT lstD
          split at h
          · rename_i h4; rw [if_pos h4]
            revert h
            cases doOs false e.ops t.kids [] with
            | none => intro h; cases h
            | some x =>
              intro h
              simp only [endD, Option.bind_some] at h
              split at h
              · exact Option.some.inj h
              · cases h
          · cases h
        · rename_i h3; rw [if_neg h3] at h; cases h

end Go.AM

namespace Go.AM
def goodT (t : Tree) : Bool := decide (0 ≤ shallow t 80 3000) && rightT t 64 && decide (t.kind ≠ 10)
end Go.AM

namespace Go.AM.Ytlahjnelghpmeaa
open Go.AM Go.Proofs

theorem map_eq_getD {α β : Type} {f : α → β} (d : α) {a b : List α} (hl : a.length = b.length) (h : ∀ i : Nat, i < a.length → f (a.getD i d) = f (b.getD i d)) : a.map f = b.map f := by
  apply List.ext_getElem (by simpa using hl)
  intro i h1 h2
  have h1' : i < a.length := by simpa using h1
  have h2' : i < b.length := by simpa using h2
  have := h i h1'
  simpa [List.getD_eq_getElem?_getD, List.getElem?_eq_getElem h1', List.getElem?_eq_getElem h2'] using this

theorem getD_map_eq {α β : Type} {f : α → β} {d : α} {a b : List α} (h : a.map f = b.map f) (i : Nat) : f (a.getD i d) = f (b.getD i d) := by
  have e := congrArg (fun l => l[i]?.getD (f d)) h
  simp only [List.getElem?_map] at e
  rw [List.getD_eq_getElem?_getD, List.getD_eq_getElem?_getD]
  cases h1 : a[i]? <;> cases h2 : b[i]? <;> simp_all

end Go.AM.Ytlahjnelghpmeaa

namespace Go.AM

def widN (m : Nat) : Nat → Nat
  | 0 => 0
  | i + 1 => widN m i + if m / 2 ^ i % 2 = 1 then 255 * 2 ^ (8 * i) else 0
def widW : Nat → Nat → Nat
  | 0, _ => 0
  | k + 1, m => (if m % 2 = 1 then 255 else 0) + 256 * widW k (m / 2)
def pickW : Nat → Nat → Nat → Nat
  | 0, _, _ => 0
  | k + 1, a, m => (if m % 2 = 1 then a % 256 else 0) + 256 * pickW k (a / 256) (m / 2)
def mixW : Nat → Nat → Nat → Nat → Nat
  | 0, _, _, _ => 0
  | k + 1, a, b, m => (if m % 2 = 1 then b % 256 else a % 256) + 256 * mixW k (a / 256) (b / 256) (m / 2)

theorem and_split (x y u v : Nat) (hu : u < 256) (hv : v < 256) : (u + 256 * x) &&& (v + 256 * y) = (u &&& v) + 256 * (x &&& y) := by
  have h : u &&& v < 256 := Nat.and_lt_two_pow (n := 8) u hv
  apply Nat.eq_of_testBit_eq
  intro j
  rw [Nat.add_comm u, Nat.add_comm v, Nat.add_comm (u &&& v), Nat.testBit_and]
  rw [show (256 : Nat) = 2 ^ 8 from rfl, Nat.testBit_two_pow_mul_add _ hu, Nat.testBit_two_pow_mul_add _ hv, Nat.testBit_two_pow_mul_add _ h]
  split <;> rw [Nat.testBit_and]

theorem or_split (x y u v : Nat) (hu : u < 256) (hv : v < 256) : (u + 256 * x) ||| (v + 256 * y) = (u ||| v) + 256 * (x ||| y) := by
  have h : u ||| v < 256 := Nat.or_lt_two_pow (n := 8) hu hv
  apply Nat.eq_of_testBit_eq
  intro j
  rw [Nat.add_comm u, Nat.add_comm v, Nat.add_comm (u ||| v), Nat.testBit_or]
  rw [show (256 : Nat) = 2 ^ 8 from rfl, Nat.testBit_two_pow_mul_add _ hu, Nat.testBit_two_pow_mul_add _ hv, Nat.testBit_two_pow_mul_add _ h]
  split <;> rw [Nat.testBit_or]

theorem and_wide : ∀ (k a m : Nat), a &&& widW k m = pickW k a m
  | 0, a, m => by simp [widW, pickW]
  | k + 1, a, m => by
    have e : a = a % 256 + 256 * (a / 256) := by omega
    simp only [widW, pickW]
    rw [← and_wide k (a / 256) (m / 2)]
    have h : a &&& ((if m % 2 = 1 then 255 else 0) + 256 * widW k (m / 2)) = (a % 256 + 256 * (a / 256)) &&& ((if m % 2 = 1 then 255 else 0) + 256 * widW k (m / 2)) := by rw [← e]
    rw [h, and_split _ _ _ _ (by omega) (by split <;> omega)]
    congr 1
    split
    · have := Nat.and_two_pow_sub_one_eq_mod (a % 256) 8
      simp only [show (2 : Nat) ^ 8 - 1 = 255 from rfl, show (2 : Nat) ^ 8 = 256 from rfl, Nat.mod_mod] at this
      exact this
    · simp

theorem or_pick : ∀ (k a b m n : Nat), (∀ i < k, m / 2 ^ i % 2 + n / 2 ^ i % 2 = 1) → pickW k a n ||| pickW k b m = mixW k a b m
  | 0, a, b, m, n, _ => by simp [pickW, mixW]
  | k + 1, a, b, m, n, h => by
    simp only [pickW, mixW]
    have h0 := h 0 (by omega)
    simp only [Nat.pow_zero, Nat.div_one] at h0
    rw [or_split _ _ _ _ (by split <;> omega) (by split <;> omega), or_pick k (a / 256) (b / 256) (m / 2) (n / 2) (fun i hi => by
      have := h (i + 1) (by omega)
      rw [Nat.div_div_eq_div_mul, Nat.div_div_eq_div_mul]
      rw [Nat.pow_succ, Nat.mul_comm] at this
      exact this)]
    congr 1
    by_cases hm : m % 2 = 1
    · rw [if_pos hm, if_pos hm, if_neg (by omega)]; simp
    · rw [if_neg hm, if_neg hm, if_pos (by omega)]; simp

theorem widN_eq : ∀ m : Fin 256, widN m.1 8 = widW 8 m.1 := by decide +kernel
theorem widW_not : ∀ m : Fin 256, 2 ^ 64 - 1 - widW 8 m.1 = widW 8 (255 - m.1) := by decide +kernel
theorem bits_not : ∀ m : Fin 256, ∀ i : Fin 8, m.1 / 2 ^ i.1 % 2 + (255 - m.1) / 2 ^ i.1 % 2 = 1 := by decide +kernel
theorem widW_lt : ∀ m : Fin 256, widW 8 m.1 < 2 ^ 64 := by decide +kernel

theorem mix_bits (a b m : Nat) (hm : m < 256) : (a &&& (2 ^ 64 - 1 - widN m 8)) ||| (b &&& widN m 8) = mixW 8 a b m := by
  have h1 := widN_eq ⟨m, hm⟩
  have h2 := widW_not ⟨m, hm⟩
  simp only at h1 h2
  rw [h1, h2, and_wide, and_wide]
  exact or_pick 8 a b m (255 - m) (fun i hi => bits_not ⟨m, hm⟩ ⟨i, hi⟩)

def ofK : Nat → (Nat → Nat) → Nat
  | 0, _ => 0
  | k + 1, f => f 0 + 256 * ofK k (fun i => f (i + 1))

theorem ofK_congr : ∀ (k : Nat) {f g : Nat → Nat}, (∀ i, f i = g i) → ofK k f = ofK k g
  | 0, _, _, _ => rfl
  | k + 1, f, g, h => by simp only [ofK, h 0, ofK_congr k (fun i => h (i + 1))]

theorem mixW_of : ∀ (k a b m : Nat), mixW k a b m = ofK k (fun i => if m / 2 ^ i % 2 = 1 then b / 256 ^ i % 256 else a / 256 ^ i % 256)
  | 0, _, _, _ => rfl
  | k + 1, a, b, m => by
    simp only [mixW, ofK, Nat.pow_zero, Nat.div_one]
    rw [mixW_of k, ofK_congr k (g := fun i => if m / 2 ^ (i + 1) % 2 = 1 then b / 256 ^ (i + 1) % 256 else a / 256 ^ (i + 1) % 256) (fun i => ?_)]
    rw [Nat.div_div_eq_div_mul, Nat.div_div_eq_div_mul, Nat.div_div_eq_div_mul, Nat.pow_succ', Nat.pow_succ']

theorem mixW_mix (a b m : Nat) : ((mixW 8 a b m : Nat) : Int) = mix a b m := by
  have nm : ∀ i : Nat, named (m : Int) (i : Int) = decide (m / 2 ^ i % 2 = 1) := by
    intro i
    unfold named
    rw [decide_eq_decide, Int.toNat_natCast]
    have : ((m : Int) / 2 ^ i % 2 : Int) = ((m / 2 ^ i % 2 : Nat) : Int) := by rw [Int.natCast_emod, Int.natCast_ediv, Int.natCast_pow]; rfl
    rw [this]; omega
  have by_ : ∀ (x i : Nat), byteAt (x : Int) i = ((x / 256 ^ i % 256 : Nat) : Int) := by
    intro x i
    unfold byteAt
    rw [Int.natCast_emod, Int.natCast_ediv, Int.natCast_pow]
    rfl
  have mx : ∀ i : Nat, mixAt (a : Int) (b : Int) (m : Int) i = ((if m / 2 ^ i % 2 = 1 then b / 256 ^ i % 256 else a / 256 ^ i % 256 : Nat) : Int) := by
    intro i
    unfold mixAt
    rw [nm, by_, by_]
    by_cases h : m / 2 ^ i % 2 = 1
    · rw [decide_eq_true h, if_pos rfl, if_pos h]
    · rw [decide_eq_false h, if_neg Bool.false_ne_true, if_neg h]
  rw [mixW_of]
  generalize hf : (fun i => if m / 2 ^ i % 2 = 1 then b / 256 ^ i % 256 else a / 256 ^ i % 256) = f
  have hx : ∀ i, mixAt (a : Int) (b : Int) (m : Int) i = (f i : Int) := by intro i; rw [mx, ← hf]
  have e : ofK 8 f = f 0 + 256 * (f 1 + 256 * (f 2 + 256 * (f 3 + 256 * (f 4 + 256 * (f 5 + 256 * (f 6 + 256 * (f 7 + 256 * 0))))))) := rfl
  rw [e]
  simp only [mix, of8, hx]
  omega

end Go.AM

namespace Go.AM.Ytlahjnelghpmeaa
open Go.AM Go.Proofs

def args134 : ArgL (Int × Unit) := (.cons (aInt .u8) .nil)
def pre134 (a : Int × Unit) : Prop := 0 ≤ a.1 ∧ a.1 < 256
noncomputable def res134 (a : Int × Unit) : V U := .c (.int .u64 ((widN (a.1).toNat 8 : Nat) : Int))
noncomputable def spec134 : Fs U := fs args134 (fun a => [pre134 a]) res134

def args127 : ArgL (Int × Int × Int × Unit) := (.cons (aInt .u64) (.cons (aInt .u64) (.cons (aInt .u8) .nil)))
def pre127 (a : Int × Int × Int × Unit) : Prop := (0 ≤ a.1 ∧ a.1 < 18446744073709551616) ∧ (0 ≤ a.2.1 ∧ a.2.1 < 18446744073709551616) ∧ (0 ≤ a.2.2.1 ∧ a.2.2.1 < 256)
noncomputable def res127 (a : Int × Int × Int × Unit) : V U := .c (.int .u64 (mix a.1 a.2.1 a.2.2.1))
noncomputable def spec127 : Fs U := fs args127 (fun a => [pre127 a]) res127

noncomputable def know134 : List (FuncId × Fs U) := []
def lv134 : Lives U := fun i => match i with
  | 0 => ([(0, [])], [])
  | 1 => ([(0, []), (3, [])], [])
  | 2 => ([(0, []), (3, []), (5, [])], [])
  | 3 => ([(0, []), (3, []), (5, []), (6, [])], [])
  | 4 => ([(0, []), (3, []), (4, []), (5, [])], [])
  | 5 => ([(0, []), (3, []), (4, []), (5, []), (12, [])], [])
  | 6 => ([(0, []), (3, []), (5, [])], [])
  | 7 => ([(0, []), (3, []), (5, [])], [])
  | 8 => ([(2, [])], [])
  | _ => ([], [])
def head134_0 (m : Int) (x3 : Int) (x5 : Int) : LSt U := (⟨[(0, .c (.int .u8 m)), (3, .c (.int .u64 x3)), (5, .c (.int .i64 x5))], [], []⟩ : LSt U)
abbrev W134 (m : Int) (Q : AExit → LSt U → Prop) : Prop := awp cfg (know know134) (drawOk cfg (know know134)) Try.f134.ntmps lv134 (cd Try.f134 []) (⟨[(0, .c (.int .u8 m))], [], []⟩ : LSt U) Q
theorem vc134 (m : Int) (Q : AExit → LSt U → Prop) (h : LoopWp (awp cfg (know know134) (drawOk cfg (know know134)) Try.f134.ntmps lv134 (cd Try.f134 [1, 1, 0, 1, 0, 0])) (head134_0 m 0 0) (AExit.inBlock 0 (seqK cfg (know know134) (drawOk cfg (know know134)) Try.f134.ntmps lv134 (cd Try.f134 [1, 1, 1]) Q))) :
    W134 m Q := by
  have e_ : (awp cfg (know know134) (drawOk cfg (know know134)) Try.f134.ntmps lv134 (cd Try.f134 []) (⟨[(0, .c (.int .u8 m))], [], []⟩ : LSt U) Q) = ((((LoopWp (awp cfg (know know134) (drawOk cfg (know know134)) Try.f134.ntmps lv134 (cd Try.f134 [1, 1, 0, 1, 0, 0])) (head134_0 m 0 0) (AExit.inBlock 0 (seqK cfg (know know134) (drawOk cfg (know know134)) Try.f134.ntmps lv134 (cd Try.f134 [1, 1, 1]) Q)))))) := by kernel_rfl
  exact e_.mpr h
abbrev W134_l0 (m : Int) (x3 : Int) (x5 : Int) (N0 : LSt U → Prop) (Q : AExit → LSt U → Prop) : Prop := awp cfg (know know134) (drawOk cfg (know know134)) Try.f134.ntmps lv134 (cd Try.f134 [1, 1, 0, 1, 0, 0]) (head134_0 m x3 x5) (AExit.then N0 (AExit.inBlock 0 (seqK cfg (know know134) (drawOk cfg (know know134)) Try.f134.ntmps lv134 (cd Try.f134 [1, 1, 1]) Q)))
theorem vc134_l0 (m : Int) (x3 : Int) (x5 : Int) (N0 : LSt U → Prop) (Q : AExit → LSt U → Prop) (h : ((decide ((x5 : Int) < 8)) = true → ((0 : Int) ≤ x5) ∧ (((((IntKind.wrap .u8 (BitVec.ofInt (IntKind.bits .u8) (Int.fdiv m (2 ^ (min (Int.toNat x5) (IntKind.bits .u8)))) &&& BitVec.ofInt (IntKind.bits .u8) 1).toNat) : Int) == 1) = true → (InR ((8 : Int) * x5)) ∧ ((0 : Int) ≤ ((8 : Int) * x5)) ∧ ((InR ((x5 : Int) + 1)) ∧ (N0 (head134_0 m (IntKind.wrap .u64 (BitVec.ofInt (IntKind.bits .u64) x3 ||| BitVec.ofInt (IntKind.bits .u64) (IntKind.wrap .u64 ((255 : Int) * 2 ^ (min (Int.toNat ((8 : Int) * x5)) (IntKind.bits .u64))))).toNat) ((x5 : Int) + 1))))) ∧ ((((IntKind.wrap .u8 (BitVec.ofInt (IntKind.bits .u8) (Int.fdiv m (2 ^ (min (Int.toNat x5) (IntKind.bits .u8)))) &&& BitVec.ofInt (IntKind.bits .u8) 1).toNat) : Int) == 1) = false → (InR ((x5 : Int) + 1)) ∧ (N0 (head134_0 m x3 ((x5 : Int) + 1)))))) ∧ ((decide ((x5 : Int) < 8)) = false → Q .ret (⟨[(2, .c (.int .u64 x3))], [], []⟩ : LSt U))) :
    W134_l0 m x3 x5 N0 Q := by
  have e_ : (awp cfg (know know134) (drawOk cfg (know know134)) Try.f134.ntmps lv134 (cd Try.f134 [1, 1, 0, 1, 0, 0]) (head134_0 m x3 x5) (AExit.then N0 (AExit.inBlock 0 (seqK cfg (know know134) (drawOk cfg (know know134)) Try.f134.ntmps lv134 (cd Try.f134 [1, 1, 1]) Q)))) = ((((decide ((x5 : Int) < 8)) = true → (((0 : Int) ≤ x5) ∧ (((((IntKind.wrap .u8 (BitVec.ofInt (IntKind.bits .u8) (Int.fdiv m (2 ^ (min (Int.toNat x5) (IntKind.bits .u8)))) &&& BitVec.ofInt (IntKind.bits .u8) 1).toNat) : Int) == 1) = true → (InR ((8 : Int) * x5)) ∧ ((0 : Int) ≤ ((8 : Int) * x5)) ∧ ((InR ((x5 : Int) + 1)) ∧ (N0 (head134_0 m (IntKind.wrap .u64 (BitVec.ofInt (IntKind.bits .u64) x3 ||| BitVec.ofInt (IntKind.bits .u64) (IntKind.wrap .u64 ((255 : Int) * 2 ^ (min (Int.toNat ((8 : Int) * x5)) (IntKind.bits .u64))))).toNat) ((x5 : Int) + 1))))) ∧ ((((IntKind.wrap .u8 (BitVec.ofInt (IntKind.bits .u8) (Int.fdiv m (2 ^ (min (Int.toNat x5) (IntKind.bits .u8)))) &&& BitVec.ofInt (IntKind.bits .u8) 1).toNat) : Int) == 1) = false → (InR ((x5 : Int) + 1)) ∧ (N0 (head134_0 m x3 ((x5 : Int) + 1))))))) ∧ ((decide ((x5 : Int) < 8)) = false → (Q .ret (⟨[(2, .c (.int .u64 x3))], [], []⟩ : LSt U))))) := by kernel_rfl
  exact e_.mpr ⟨fun c_1 => ⟨(h.1 c_1).1, ⟨fun c_2 => ⟨((h.1 c_1).2.1 c_2).1, ((h.1 c_1).2.1 c_2).2.1, ⟨((h.1 c_1).2.1 c_2).2.2.1, ((h.1 c_1).2.1 c_2).2.2.2⟩⟩, fun c_2 => ⟨((h.1 c_1).2.2 c_2).1, ((h.1 c_1).2.2 c_2).2⟩⟩⟩, fun c_1 => (h.2 c_1)⟩
def Body134 (m : Int)  : Prop := awp cfg (know (know134)) (drawOk cfg (know (know134))) Try.f134.ntmps lv134 (cd Try.f134 []) (entry (args134.can (m, ())) []) (EndsQ cfg Try.f134.ntmps Try.f134.results.toList (res134 (m, ())) [])
theorem make134 (hb : ∀ (m : Int) (_ : Unit), pre134 (m, ()) → Body134 m) : Contract Try.prog cfg 134 spec134 :=
  contract_flat (l := []) cfgOk rfl (trivial) lv134 Try.func134 rfl rfl 1 (fun _ => rfl) (by decide) (fun ⟨m, _⟩ => hb m ())

noncomputable def know127 : List (FuncId × Fs U) := [(134, spec134)]
def lv127 : Lives U := fun i => match i with
  | 0 => ([(0, []), (1, []), (2, [])], [])
  | 1 => ([(6, [])], [])
  | _ => ([], [])
abbrev W127 (a : Int) (b : Int) (m : Int) (Q : AExit → LSt U → Prop) : Prop := awp cfg (know know127) (drawOk cfg (know know127)) Try.f127.ntmps lv127 (cd Try.f127 []) (⟨[(0, .c (.int .u64 a)), (1, .c (.int .u64 b)), (2, .c (.int .u8 m))], [], []⟩ : LSt U) Q
theorem vc127 (a : Int) (b : Int) (m : Int) (Q : AExit → LSt U → Prop) (h : (pre134 (m, ())) ∧ (pre134 (m, ())) ∧ (Q .ret (⟨[(6, .c (.int .u64 (IntKind.wrap .u64 (BitVec.ofInt (IntKind.bits .u64) (IntKind.wrap .u64 (BitVec.ofInt (IntKind.bits .u64) a &&& ~~~(BitVec.ofInt (IntKind.bits .u64) ((widN (m).toNat 8 : Nat) : Int))).toNat) ||| BitVec.ofInt (IntKind.bits .u64) (IntKind.wrap .u64 (BitVec.ofInt (IntKind.bits .u64) b &&& BitVec.ofInt (IntKind.bits .u64) ((widN (m).toNat 8 : Nat) : Int)).toNat)).toNat)))], [], []⟩ : LSt U))) :
    W127 a b m Q := by
  have e_ : (awp cfg (know know127) (drawOk cfg (know know127)) Try.f127.ntmps lv127 (cd Try.f127 []) (⟨[(0, .c (.int .u64 a)), (1, .c (.int .u64 b)), (2, .c (.int .u8 m))], [], []⟩ : LSt U) Q) = (((pre134 (m, ())) ∧ (pre134 (m, ())) ∧ (Q .ret (⟨[(6, .c (.int .u64 (IntKind.wrap .u64 (BitVec.ofInt (IntKind.bits .u64) (IntKind.wrap .u64 (BitVec.ofInt (IntKind.bits .u64) a &&& ~~~(BitVec.ofInt (IntKind.bits .u64) ((widN (m).toNat 8 : Nat) : Int))).toNat) ||| BitVec.ofInt (IntKind.bits .u64) (IntKind.wrap .u64 (BitVec.ofInt (IntKind.bits .u64) b &&& BitVec.ofInt (IntKind.bits .u64) ((widN (m).toNat 8 : Nat) : Int)).toNat)).toNat)))], [], []⟩ : LSt U)))) := by kernel_rfl
  exact e_.mpr ⟨h.1, h.2.1, h.2.2⟩
def Body127 (a : Int) (b : Int) (m : Int)  : Prop := awp cfg (know (know127)) (drawOk cfg (know (know127))) Try.f127.ntmps lv127 (cd Try.f127 []) (entry (args127.can (a, b, m, ())) []) (EndsQ cfg Try.f127.ntmps Try.f127.results.toList (res127 (a, b, m, ())) [])
theorem make127 (c134 : Contract Try.prog cfg 134 spec134) (hb : ∀ (a : Int) (b : Int) (m : Int) (_ : Unit), pre127 (a, b, m, ()) → Body127 a b m) : Contract Try.prog cfg 127 spec127 :=
  contract_flat (l := [(134, spec134)]) cfgOk rfl (⟨c134, trivial⟩) lv127 Try.func127 rfl rfl 3 (fun _ => rfl) (by decide) (fun ⟨a, b, m, _⟩ => hb a b m ())

end Go.AM.Ytlahjnelghpmeaa

namespace Go.AM.Ytlahjnelghpmeaa
open Go.AM Go.Proofs

theorem bit_of : ∀ n : Fin 256, ∀ i : Fin 8, IntKind.wrap .u8 (BitVec.ofInt (IntKind.bits .u8) (Int.fdiv (n.1 : Int) (2 ^ (min (Int.toNat (i.1 : Int)) (IntKind.bits .u8)))) &&& BitVec.ofInt (IntKind.bits .u8) 1).toNat = ((n.1 / 2 ^ i.1 % 2 : Nat) : Int) := by decide +kernel
theorem or_byte : ∀ n : Fin 256, ∀ i : Fin 8, IntKind.wrap .u64 (BitVec.ofInt (IntKind.bits .u64) ((widN n.1 i.1 : Nat) : Int) ||| BitVec.ofInt (IntKind.bits .u64) (IntKind.wrap .u64 (255 * 2 ^ (min (Int.toNat (8 * (i.1 : Int))) (IntKind.bits .u64))))).toNat = ((widN n.1 i.1 + 255 * 2 ^ (8 * i.1) : Nat) : Int) := by decide +kernel

theorem c134 : Contract Try.prog cfg 134 spec134 := by
  refine make134 ?_
  intro m _ hp
  simp only [pre134] at hp
  obtain ⟨n, rfl⟩ := Int.eq_ofNat_of_zero_le hp.1
  have hn : n < 256 := by omega
  refine vc134 _ _ ?_
  refine loop_rule (ι := Nat) (fun i => head134_0 n ((widN n i : Nat) : Int) i) (fun i => i ≤ 8) (fun i => 8 - i) 0 rfl (by omega) ?_
  intro i hi
  refine vc134_l0 _ _ _ _ _ ?_
  (simp only [vcS])
  refine ⟨fun hc => ⟨by omega, fun hq => ⟨by unfold InR; omega, by omega, by unfold InR; omega, i + 1, ?_, by omega, by omega⟩, fun hq => ⟨by unfold InR; omega, i + 1, ?_, by omega, by omega⟩⟩, fun hc => ?_⟩
  · have h1 := bit_of ⟨n, hn⟩ ⟨i, by omega⟩
    have h2 := or_byte ⟨n, hn⟩ ⟨i, by omega⟩
    simp only at h1 h2
    rw [h1] at hq
    rw [h2]
    have e : widN n (i + 1) = widN n i + 255 * 2 ^ (8 * i) := by simp only [widN]; rw [if_pos (by omega)]
    rw [e]
    rfl
  · have h1 := bit_of ⟨n, hn⟩ ⟨i, by omega⟩
    simp only at h1
    rw [h1] at hq
    have e : widN n (i + 1) = widN n i := by simp only [widN]; rw [if_neg (by omega)]; omega
    rw [e]
    rfl
  · have : i = 8 := by omega
    subst this
    exact ends_int rfl rfl

theorem ofInt_nat (a : Nat) (h : a < 2 ^ 64) : (BitVec.ofInt 64 (a : Int)).toNat = a := by
  rw [BitVec.toNat_ofInt]
  omega

theorem c127 : Contract Try.prog cfg 127 spec127 := by
  refine make127 c134 ?_
  intro a b m _ hp
  simp only [pre127] at hp
  obtain ⟨⟨a0, a1⟩, ⟨b0, b1⟩, m0, m1⟩ := hp
  obtain ⟨x, rfl⟩ := Int.eq_ofNat_of_zero_le a0
  obtain ⟨y, rfl⟩ := Int.eq_ofNat_of_zero_le b0
  obtain ⟨n, rfl⟩ := Int.eq_ofNat_of_zero_le m0
  have hn : n < 256 := by omega
  have hx : x < 2 ^ 64 := by omega
  have hy : y < 2 ^ 64 := by omega
  have hw := widW_lt ⟨n, hn⟩
  have hw2 := widN_eq ⟨n, hn⟩
  simp only at hw hw2
  rw [← hw2] at hw
  refine vc127 _ _ _ _ ?_
  refine ⟨⟨m0, m1⟩, ⟨m0, m1⟩, ends_int rfl ?_⟩
  have em : mix x y n = (((x &&& (2 ^ 64 - 1 - widN n 8)) ||| (y &&& widN n 8) : Nat) : Int) := by rw [← mixW_mix, ← mix_bits x y n hn]
  have e1 : (BitVec.ofInt 64 (x : Int) &&& ~~~(BitVec.ofInt 64 ((widN n 8 : Nat) : Int))).toNat = x &&& (2 ^ 64 - 1 - widN n 8) := by
    rw [BitVec.toNat_and, BitVec.toNat_not, ofInt_nat x hx, ofInt_nat _ hw]
  have e2 : (BitVec.ofInt 64 (y : Int) &&& BitVec.ofInt 64 ((widN n 8 : Nat) : Int)).toNat = y &&& widN n 8 := by
    rw [BitVec.toNat_and, ofInt_nat y hy, ofInt_nat _ hw]
  have l1 : x &&& (2 ^ 64 - 1 - widN n 8) < 2 ^ 64 := Nat.lt_of_le_of_lt Nat.and_le_left hx
  have l2 : y &&& widN n 8 < 2 ^ 64 := Nat.lt_of_le_of_lt Nat.and_le_left hy
  have l3 : (x &&& (2 ^ 64 - 1 - widN n 8)) ||| (y &&& widN n 8) < 2 ^ 64 := Nat.or_lt_two_pow l1 l2
  have key : IntKind.wrap .u64 ((BitVec.ofInt 64 (IntKind.wrap .u64 ((BitVec.ofInt 64 (x : Int) &&& ~~~(BitVec.ofInt 64 ((widN n 8 : Nat) : Int))).toNat : Int)) ||| BitVec.ofInt 64 (IntKind.wrap .u64 ((BitVec.ofInt 64 (y : Int) &&& BitVec.ofInt 64 ((widN n 8 : Nat) : Int)).toNat : Int))).toNat : Int) = mix x y n := by
    have w1 : ∀ k : Nat, k < 2 ^ 64 → IntKind.wrap .u64 (k : Int) = k := fun k hk => wrap_u64 (by omega) (by omega)
    rw [e1, e2, w1 _ l1, w1 _ l2, BitVec.toNat_or, ofInt_nat _ l1, ofInt_nat _ l2, w1 _ l3, em]
  exact key

end Go.AM.Ytlahjnelghpmeaa

namespace Go.AM.Ytlahjnelghpmeaa
open Go.AM Go.Proofs

def args96 : ArgL (List Tree × List Tree × Unit × Unit) := (.cons (aSl .tree) (.cons (aSl .tree) (.cons (aFn 34) .nil)))
def pre96 (a : List Tree × List Tree × Unit × Unit) : Prop := massK a.1 ≤ 1000000000000 ∧ massK a.2.1 ≤ 1000000000000
noncomputable def res96 (a : List Tree × List Tree × Unit × Unit) : V U := .c (.bool (eqX (normsT a.1) (normsT a.2.1)))
noncomputable def spec96 : Fs U := fs args96 (fun a => [pre96 a]) res96

noncomputable def know96 : List (FuncId × Fs U) := [(34, spec34)]
def lv96 : Lives U := fun i => match i with
  | 0 => ([(0, []), (1, []), (2, [])], [])
  | 1 => ([(0, []), (1, []), (2, []), (14, [])], [])
  | 2 => ([(6, [])], [])
  | 3 => ([(1, []), (2, []), (15, []), (16, []), (17, [])], [])
  | 4 => ([(1, []), (2, []), (15, []), (16, []), (17, []), (18, [])], [])
  | 5 => ([(1, []), (2, []), (7, []), (8, []), (15, []), (16, []), (17, [])], [((.loc 8), [])])
  | 6 => ([(1, []), (2, []), (8, []), (9, []), (15, []), (16, []), (17, [])], [((.loc 8), []), ((.loc 9), [])])
  | 7 => ([(1, []), (2, []), (15, []), (16, []), (17, []), (30, [])], [])
  | 8 => ([(6, [])], [])
  | 9 => ([(1, []), (2, []), (15, []), (16, []), (17, [])], [])
  | 10 => ([(6, [])], [])
  | _ => ([], [])
def head96_0 (a : List Tree) (b : List Tree) (f : Unit) (x17 : Int) : LSt U := (⟨[(1, .c (.slice (U := U) .tree b .unk)), (2, .fn 34), (15, .c (.slice (U := U) .tree a .unk)), (16, .c (.int .i64 (a.length : Int))), (17, .c (.int .i64 x17))], [], []⟩ : LSt U)
abbrev W96 (a : List Tree) (b : List Tree) (f : Unit) (Q : AExit → LSt U → Prop) : Prop := awp cfg (know know96) (drawOk cfg (know know96)) Try.f96.ntmps lv96 (cd Try.f96 []) (⟨[(0, .c (.slice (U := U) .tree a .unk)), (1, .c (.slice (U := U) .tree b .unk)), (2, .fn 34)], [], []⟩ : LSt U) Q
theorem vc96 (a : List Tree) (b : List Tree) (f : Unit) (Q : AExit → LSt U → Prop) (h : ((((a.length : Int) : Int) != (b.length : Int)) = true → Q .ret (⟨[(6, .c (.bool false))], [], []⟩ : LSt U)) ∧ ((((a.length : Int) : Int) != (b.length : Int)) = false → LoopWp (awp cfg (know know96) (drawOk cfg (know know96)) Try.f96.ntmps lv96 (cd Try.f96 [1, 1, 0, 1, 0, 0])) (head96_0 a b f 0) (AExit.inBlock 0 (seqK cfg (know know96) (drawOk cfg (know know96)) Try.f96.ntmps lv96 (cd Try.f96 [1, 1, 1]) Q)))) :
    W96 a b f Q := by
  have e_ : (awp cfg (know know96) (drawOk cfg (know know96)) Try.f96.ntmps lv96 (cd Try.f96 []) (⟨[(0, .c (.slice (U := U) .tree a .unk)), (1, .c (.slice (U := U) .tree b .unk)), (2, .fn 34)], [], []⟩ : LSt U) Q) = (((((((a.length : Int) : Int) != (b.length : Int)) = true → (Q .ret (⟨[(6, .c (.bool false))], [], []⟩ : LSt U))) ∧ ((((a.length : Int) : Int) != (b.length : Int)) = false → (LoopWp (awp cfg (know know96) (drawOk cfg (know know96)) Try.f96.ntmps lv96 (cd Try.f96 [1, 1, 0, 1, 0, 0])) (head96_0 a b f 0) (AExit.inBlock 0 (seqK cfg (know know96) (drawOk cfg (know know96)) Try.f96.ntmps lv96 (cd Try.f96 [1, 1, 1]) Q))))))) := by kernel_rfl
  exact e_.mpr ⟨fun c_4 => (h.1 c_4), fun c_4 => (h.2 c_4)⟩
abbrev W96_l0 (a : List Tree) (b : List Tree) (f : Unit) (x17 : Int) (N0 : LSt U → Prop) (Q : AExit → LSt U → Prop) : Prop := awp cfg (know know96) (drawOk cfg (know know96)) Try.f96.ntmps lv96 (cd Try.f96 [1, 1, 0, 1, 0, 0]) (head96_0 a b f x17) (AExit.then N0 (AExit.inBlock 0 (seqK cfg (know know96) (drawOk cfg (know know96)) Try.f96.ntmps lv96 (cd Try.f96 [1, 1, 1]) Q)))
theorem vc96_l0 (a : List Tree) (b : List Tree) (f : Unit) (x17 : Int) (N0 : LSt U → Prop) (Q : AExit → LSt U → Prop) (h : ((decide ((x17 : Int) < (a.length : Int))) = true → ((0 : Int) ≤ x17 ∧ x17 < (a.length : Int)) ∧ (((0 : Int) ≤ x17 ∧ x17 < (b.length : Int)) ∧ ((pre34 ((Tree.mk (Tree.kind (List.getD a (Int.toNat x17) Tree.nil)) (Tree.words (List.getD a (Int.toNat x17) Tree.nil)) (Tree.kids (List.getD a (Int.toNat x17) Tree.nil))), (Tree.mk (Tree.kind (List.getD b (Int.toNat x17) Tree.nil)) (Tree.words (List.getD b (Int.toNat x17) Tree.nil)) (Tree.kids (List.getD b (Int.toNat x17) Tree.nil))), ())) ∧ (((!(sameT (normT (Tree.mk (Tree.kind (List.getD a (Int.toNat x17) Tree.nil)) (Tree.words (List.getD a (Int.toNat x17) Tree.nil)) (Tree.kids (List.getD a (Int.toNat x17) Tree.nil)))) (normT (Tree.mk (Tree.kind (List.getD b (Int.toNat x17) Tree.nil)) (Tree.words (List.getD b (Int.toNat x17) Tree.nil)) (Tree.kids (List.getD b (Int.toNat x17) Tree.nil)))))) = true → Q .ret (⟨[(6, .c (.bool false))], [], []⟩ : LSt U)) ∧ ((!(sameT (normT (Tree.mk (Tree.kind (List.getD a (Int.toNat x17) Tree.nil)) (Tree.words (List.getD a (Int.toNat x17) Tree.nil)) (Tree.kids (List.getD a (Int.toNat x17) Tree.nil)))) (normT (Tree.mk (Tree.kind (List.getD b (Int.toNat x17) Tree.nil)) (Tree.words (List.getD b (Int.toNat x17) Tree.nil)) (Tree.kids (List.getD b (Int.toNat x17) Tree.nil)))))) = false → (InR ((x17 : Int) + 1)) ∧ (N0 (head96_0 a b f ((x17 : Int) + 1)))))))) ∧ ((decide ((x17 : Int) < (a.length : Int))) = false → Q .ret (⟨[(6, .c (.bool true))], [], []⟩ : LSt U))) :
    W96_l0 a b f x17 N0 Q := by
  have e_ : (awp cfg (know know96) (drawOk cfg (know know96)) Try.f96.ntmps lv96 (cd Try.f96 [1, 1, 0, 1, 0, 0]) (head96_0 a b f x17) (AExit.then N0 (AExit.inBlock 0 (seqK cfg (know know96) (drawOk cfg (know know96)) Try.f96.ntmps lv96 (cd Try.f96 [1, 1, 1]) Q)))) = ((((decide ((x17 : Int) < (a.length : Int))) = true → ((0 : Int) ≤ x17 ∧ x17 < (a.length : Int)) ∧ (((0 : Int) ≤ x17 ∧ x17 < (b.length : Int)) ∧ ((pre34 ((Tree.mk (Tree.kind (List.getD a (Int.toNat x17) Tree.nil)) (Tree.words (List.getD a (Int.toNat x17) Tree.nil)) (Tree.kids (List.getD a (Int.toNat x17) Tree.nil))), (Tree.mk (Tree.kind (List.getD b (Int.toNat x17) Tree.nil)) (Tree.words (List.getD b (Int.toNat x17) Tree.nil)) (Tree.kids (List.getD b (Int.toNat x17) Tree.nil))), ())) ∧ (((!(sameT (normT (Tree.mk (Tree.kind (List.getD a (Int.toNat x17) Tree.nil)) (Tree.words (List.getD a (Int.toNat x17) Tree.nil)) (Tree.kids (List.getD a (Int.toNat x17) Tree.nil)))) (normT (Tree.mk (Tree.kind (List.getD b (Int.toNat x17) Tree.nil)) (Tree.words (List.getD b (Int.toNat x17) Tree.nil)) (Tree.kids (List.getD b (Int.toNat x17) Tree.nil)))))) = true → (Q .ret (⟨[(6, .c (.bool false))], [], []⟩ : LSt U))) ∧ ((!(sameT (normT (Tree.mk (Tree.kind (List.getD a (Int.toNat x17) Tree.nil)) (Tree.words (List.getD a (Int.toNat x17) Tree.nil)) (Tree.kids (List.getD a (Int.toNat x17) Tree.nil)))) (normT (Tree.mk (Tree.kind (List.getD b (Int.toNat x17) Tree.nil)) (Tree.words (List.getD b (Int.toNat x17) Tree.nil)) (Tree.kids (List.getD b (Int.toNat x17) Tree.nil)))))) = false → (InR ((x17 : Int) + 1)) ∧ (N0 (head96_0 a b f ((x17 : Int) + 1)))))))) ∧ ((decide ((x17 : Int) < (a.length : Int))) = false → (Q .ret (⟨[(6, .c (.bool true))], [], []⟩ : LSt U))))) := by kernel_rfl
  exact e_.mpr ⟨fun c_5 => ⟨(h.1 c_5).1, ⟨(h.1 c_5).2.1, ⟨(h.1 c_5).2.2.1, ⟨fun c_6 => ((h.1 c_5).2.2.2.1 c_6), fun c_6 => ⟨((h.1 c_5).2.2.2.2 c_6).1, ((h.1 c_5).2.2.2.2 c_6).2⟩⟩⟩⟩⟩, fun c_5 => (h.2 c_5)⟩
def Body96 (a : List Tree) (b : List Tree) (f : Unit)  : Prop := awp cfg (know (know96)) (drawOk cfg (know (know96))) Try.f96.ntmps lv96 (cd Try.f96 []) (entry (args96.can (a, b, f, ())) []) (EndsQ cfg Try.f96.ntmps Try.f96.results.toList (res96 (a, b, f, ())) [])
theorem make96 (c34 : Contract Try.prog cfg 34 spec34) (hb : ∀ (a : List Tree) (b : List Tree) (f : Unit) (_ : Unit), pre96 (a, b, f, ()) → Body96 a b f) : Contract Try.prog cfg 96 spec96 :=
  contract_flat (l := [(34, spec34)]) cfgOk rfl (⟨c34, trivial⟩) lv96 Try.func96 rfl rfl 3 (fun _ => rfl) (by decide) (fun ⟨a, b, f, _⟩ => hb a b f ())

end Go.AM.Ytlahjnelghpmeaa

namespace Go.AM.Ytlahjnelghpmeaa
open Go.AM Go.Proofs

theorem c96 : Contract Try.prog cfg 96 spec96 := by
  refine make96 c34 ?_
  intro a b f _ hp
  simp only [pre96] at hp
  refine vc96 a b f _ ?_
  (simp only [vcS])
  refine ⟨fun hc => ends_bool rfl (eqX_no (a := normsT a) (b := normsT b) (fun h => hc (by have := congrArg List.length h; simp [normsT] at this; omega))).symm, fun hc => ?_⟩
  have hl : a.length = b.length := by omega
  have hla := massK_len a
  refine loop_rule (ι := Int) (fun i => head96_0 a b f i) (fun i => 0 ≤ i ∧ i ≤ a.length ∧ ∀ j : Nat, (j : Int) < i → normT (a.getD j Tree.nil) = normT (b.getD j Tree.nil)) (fun i => ((a.length : Int) - i).toNat) 0 rfl ⟨by omega, by omega, by intro j hj; omega⟩ ?_
  rintro i ⟨h1, h2, h3⟩
  refine vc96_l0 a b f _ _ _ ?_
  (simp only [vcS])
  (simp only [Tree.eta, Edit.eta, Tree.kind_mk, Tree.words_mk, Tree.kids_mk])
  refine ⟨fun hi => ⟨⟨h1, hi⟩, ⟨h1, by omega⟩, ?_, fun hq => ?_, fun hq => ⟨by unfold InR; omega, i + 1, rfl, ⟨by omega, by omega, ?_⟩, by omega⟩⟩, fun hi => ?_⟩
  · have := massK_mem (mem_getD (l := a) (i := i.toNat) (by omega) Tree.nil)
    have := massK_mem (mem_getD (l := b) (i := i.toNat) (by omega) Tree.nil)
    simp only [pre34]; omega
  · refine ends_bool rfl (eqX_no (a := normsT a) (b := normsT b) (fun h => ?_)).symm
    have h5 := getD_map_eq (d := Tree.nil) h i.toNat
    rw [sameT_false] at hq
    exact hq h5
  · intro j hj
    by_cases hj2 : (j : Int) < i
    · exact h3 j hj2
    · rw [sameT_true, show i.toNat = j by omega] at hq
      exact hq
  · exact ends_bool rfl (eqX_iff (a := normsT a) (b := normsT b).2 (map_eq_getD Tree.nil hl (fun j hj => h3 j (by omega)))).symm

end Go.AM.Ytlahjnelghpmeaa

namespace Go.AM.Ytlahjnelghpmeaa
open Go.AM Go.Proofs

theorem sameT_self (a : Tree) : sameT a a = true := by simp [sameT]

theorem trim_idem (l : List Int) : trim (trim l) = trim l := by
  induction l with
  | nil => rfl
  | cons x r ih =>
    rw [trim_cons]
    split
    · rfl
    · rename_i h
      rw [trim_cons, ih, if_neg h]

theorem trimK_idem (l : List Tree) : trimK (trimK l) = trimK l := by
  induction l with
  | nil => rfl
  | cons x r ih =>
    rw [trimK_cons]
    split
    · rfl
    · rename_i h
      rw [trimK_cons, ih, if_neg h]

def Normed : List Tree → Prop
  | [] => True
  | t :: r => normT t = t ∧ Normed r

theorem Normed.eq : ∀ {l : List Tree}, Normed l → normK l = l
  | [], _ => rfl
  | t :: r, h => by simp only [normK, h.1, Normed.eq h.2]

theorem Normed.trim : ∀ {l : List Tree}, Normed l → Normed (trimK l)
  | [], _ => trivial
  | t :: r, h => by
    rw [trimK_cons]
    split
    · trivial
    · exact ⟨h.1, Normed.trim h.2⟩

mutual
theorem normT_idem : ∀ (t : Tree), normT (normT t) = normT t
  | .mk k w ks => by
    have h := normK_normed ks
    by_cases h0 : k = 0
    · simp [normT, h0, Tree.nil]
    · by_cases h1 : k = 1
      · subst h1
        simp only [normT, if_neg h0, if_true, trim_idem, h.trim.eq, trimK_idem]
      · simp only [normT, if_neg h0, if_neg h1, h.eq]
theorem normK_normed : ∀ (ks : List Tree), Normed (normK ks)
  | [] => trivial
  | t :: r => ⟨normT_idem t, normK_normed r⟩
end


end Go.AM.Ytlahjnelghpmeaa

namespace Go.AM.Ytlahjnelghpmeaa
open Go.AM Go.Proofs

theorem normsT_append (a b : List Tree) : normsT (a ++ b) = normsT a ++ normsT b := by simp [normsT]



end Go.AM.Ytlahjnelghpmeaa

namespace Go.AM

theorem vcF : (∀ {α : Type} {a : α}, (a = a) = True) ∧ ((true = false) = False) ∧ ((false = true) = False) ∧ (∀ {p : Prop}, (False → p) = True) ∧ (∀ {p : Prop}, (True → p) = p) ∧ (∀ {p : Prop}, (True ∧ p) = p) ∧ (∀ {p : Prop}, (p ∧ True) = p) ∧ ((!true) = false) ∧ ((!false) = true) :=
  ⟨by simp, by simp, by simp, by simp, by simp, by simp, by simp, rfl, rfl⟩

theorem noneT_is {t : Tree} (h : noneT t = true) : t = Tree.nil := by
  obtain ⟨k, w, ks⟩ := t
  simp only [noneT, decide_eq_true_eq] at h
  obtain ⟨h1, h2, h3⟩ := h
  have h1 : k = 0 := h1
  rw [h1, List.eq_nil_of_length_eq_zero (l := w) h2, List.eq_nil_of_length_eq_zero (l := ks) h3]
  rfl
theorem sameE_is {e : Edit} (h : sameE e = true) : e = Edit.nil := by
  obtain ⟨k, o, n, w, ks, l, os⟩ := e
  simp only [sameE, Bool.and_eq_true, decide_eq_true_eq] at h
  obtain ⟨⟨⟨h1, h2⟩, h3⟩, h4, h5, h6, h7⟩ := h
  have h1 : k = 0 := h1
  have h7 : l = 0 := h7
  rw [h1, h7, noneT_is (t := o) h2, noneT_is (t := n) h3, List.eq_nil_of_length_eq_zero (l := w) h4, List.eq_nil_of_length_eq_zero (l := ks) h5, List.eq_nil_of_length_eq_zero (l := os) h6]
  rfl

structure RightE (e : Edit) (d : Int) : Prop where
  d0 : d ≠ 0
  kind : 0 ≤ e.kind ∧ e.kind ≤ 3
  none : e.kind ≠ 1 → e.old = Tree.nil ∧ e.new = Tree.nil
  words0 : e.kind ≠ 2 → e.words = [] ∧ e.kids = []
  ops0 : e.kind ≠ 3 → e.list = 0 ∧ e.ops = []
  rep : e.kind = 1 → rightT e.old 64 = true ∧ rightT e.new 64 = true ∧ e.old.kind ≠ 10 ∧ e.new.kind ≠ 10
  words : wordsOk (-1) e.words = true
  kids : rightKs (-1) e.kids (d - 1) = true
  list : e.kind = 3 → 2 ≤ e.list ∧ e.list ≤ 9
  ops : rightOs e.list e.ops (d - 1) = true
  len : lenA e.ops 0 < 1048576 ∧ lenB e.ops 0 < 1048576

theorem rightE_all {e : Edit} {d : Int} (h : rightE e d = true) : RightE e d := by
  obtain ⟨k, o, n, w, ks, l, os⟩ := e
  rw [rightE] at h
  split at h
  · cases h
  · rename_i a
    split at h
    · cases h
    · rename_i b
      have b1 : k ≠ 1 → o = Tree.nil ∧ n = Tree.nil := by
        intro hk
        by_cases x : noneT o = true ∧ noneT n = true
        · exact ⟨noneT_is x.1, noneT_is x.2⟩
        · exact absurd (.inl ⟨hk, x⟩) b
      have b2 : k ≠ 2 → w = [] ∧ ks = [] := by
        intro hk
        by_cases x : w.length = 0 ∧ ks.length = 0
        · exact ⟨List.eq_nil_of_length_eq_zero x.1, List.eq_nil_of_length_eq_zero x.2⟩
        · exact absurd (.inr (.inl ⟨hk, x⟩)) b
      have b3 : k ≠ 3 → l = 0 ∧ os = [] := by
        intro hk
        by_cases x : l ≠ 0 ∨ os.length ≠ 0
        · exact absurd (.inr (.inr ⟨hk, x⟩)) b
        · exact ⟨by omega, List.eq_nil_of_length_eq_zero (by omega)⟩
      split at h
      · rename_i c
        simp only [Bool.and_eq_true, decide_eq_true_eq] at h
        obtain ⟨⟨h1, h2⟩, h3, h4⟩ := h
        have c2 := b2 (by omega)
        have c3 := b3 (by omega)
        obtain ⟨rfl, rfl⟩ := c2
        obtain ⟨rfl, rfl⟩ := c3
        exact ⟨by omega, ⟨by show 0 ≤ k; omega, by show k ≤ 3; omega⟩, b1, b2, b3, fun _ => ⟨h1, h2, h3, h4⟩, rfl, rfl, fun e => by have e : k = 3 := e; omega, rfl, by show lenA [] 0 < _ ∧ lenB [] 0 < _; simp [lenA, lenB]⟩
      · rename_i c
        simp only [Bool.and_eq_true, decide_eq_true_eq] at h
        obtain ⟨⟨⟨⟨h1, h2⟩, h3⟩, h4⟩, h5⟩ := h
        exact ⟨by omega, ⟨by show 0 ≤ k; omega, by show k ≤ 3; omega⟩, b1, b2, b3, fun e => absurd e c, h1, h2, fun e => by have e : k = 3 := e; show 2 ≤ l ∧ l ≤ 9; omega, h4, h5⟩

theorem rightKs_all : ∀ {ks : List Kid} {last d : Int}, rightKs last ks d = true → ∀ k ∈ ks, (last < k.at_ ∧ k.at_ ≤ 65534 ∧ k.e.kind ≠ 0) ∧ rightE k.e d = true
  | [], _, _, _, _, hk => by cases hk
  | ⟨a, e⟩ :: r, last, d, h, k, hk => by
    simp only [rightKs, rightKid, Bool.and_eq_true, decide_eq_true_eq] at h
    obtain ⟨⟨h1, h2⟩, h3⟩ := h
    rcases List.mem_cons.1 hk with rfl | hk
    · exact ⟨h1, h2⟩
    · have := rightKs_all h3 k hk
      have h1 : last < a ∧ a ≤ 65534 ∧ e.kind ≠ 0 := h1
      have h4 : a < k.at_ := this.1.1
      exact ⟨⟨by omega, this.1.2⟩, this.2⟩
theorem rightOs_mem {list : Int} : ∀ {os : List Op} {d : Int}, rightOs list os d = true → ∀ o ∈ os, rightOp list o d = true
  | [], _, _, _, ho => by cases ho
  | a :: r, d, h, o, ho => by
    simp only [rightOs, Bool.and_eq_true] at h
    rcases List.mem_cons.1 ho with rfl | ho
    · exact h.1
    · exact rightOs_mem h.2 o ho
theorem wordsOk_all : ∀ {ws : List WEdit} {last : Int}, wordsOk last ws = true → ∀ w ∈ ws, last < w.at_ ∧ w.at_ ≤ 65534 ∧ w.mask ≠ 0 ∧ withinW w.old w.mask = true ∧ withinW w.new w.mask = true
  | [], _, _, _, hw => by cases hw
  | a :: r, last, h, w, hw => by
    simp only [wordsOk, Bool.and_eq_true, decide_eq_true_eq] at h
    obtain ⟨⟨⟨h1, h2⟩, h3⟩, h4⟩ := h
    rcases List.mem_cons.1 hw with rfl | hw
    · exact ⟨h1.1, h1.2.1, h1.2.2, h2, h3⟩
    · have := wordsOk_all h4 w hw
      exact ⟨by omega, this.2⟩

inductive RightOp (list : Int) (d : Int) : Op → Prop
  | keep (n : Int) : 1 ≤ n → n ≤ 1048576 → RightOp list d ⟨0, n, [], Edit.nil⟩
  | gone (l : List Tree) : treesOk list l = true → 0 < l.length → RightOp list d ⟨1, 0, l, Edit.nil⟩
  | come (l : List Tree) : treesOk list l = true → 0 < l.length → RightOp list d ⟨2, 0, l, Edit.nil⟩
  | into (e : Edit) : rightE e d = true → e.kind ≠ 0 → 7 < list → (list = 8 ∨ e.kind = 2 ∨ e.kind = 1 ∧ e.old.kind = 1 ∧ e.new.kind = 1) → RightOp list d ⟨3, 0, [], e⟩

theorem rightOp_all {list : Int} {o : Op} {d : Int} (h : rightOp list o d = true) : RightOp list d o := by
  obtain ⟨k, n, l, e⟩ := o
  rw [rightOp] at h
  split at h
  · rename_i hk
    simp only [Bool.and_eq_true, decide_eq_true_eq] at h
    obtain ⟨⟨h1, h2, h3⟩, h4⟩ := h
    rw [hk, sameE_is h4, List.eq_nil_of_length_eq_zero h3]
    exact .keep n h1 h2
  · rename_i h0
    split at h
    · cases h
    · rename_i h1
      have hn : n = 0 := by omega
      subst hn
      split at h
      · rename_i h2
        simp only [Bool.and_eq_true, decide_eq_true_eq] at h
        obtain ⟨⟨h3, h4⟩, h5⟩ := h
        rw [sameE_is h5]
        by_cases hk : k = 1
        · rw [hk]; exact .gone l h3 h4
        · rw [show k = 2 by omega]; exact .come l h3 h4
      · rename_i h2
        simp only [Bool.and_eq_true, decide_eq_true_eq] at h
        obtain ⟨⟨⟨h3, h4, h5⟩, h6⟩, h7⟩ := h
        rw [show k = 3 by omega, List.eq_nil_of_length_eq_zero h3]
        exact .into e h6 h4 h5 h7

theorem right_desc {l d : Int} {o : Op} (h : rightOp l o d = true) (hk : o.kind = 3) : rightE o.e d = true := by
  have r := rightOp_all h
  cases r with
  | into e h1 => exact h1
  | keep | gone | come => exact absurd hk (by simp)

end Go.AM

namespace Go.AM.Ytlahjnelghpmeaa
open Go.AM Go.Proofs

theorem setPad_length {α : Type} (z : α) (l : List α) (i : Nat) (x : α) : (setPad z l i x).length = max l.length (i + 1) := by
  simp only [setPad, List.length_set, List.length_append, List.length_replicate]; omega
theorem setPad_getD {α : Type} (z : α) (l : List α) (i : Nat) (x : α) (j : Nat) : (setPad z l i x).getD j z = if j = i then x else l.getD j z := by
  simp only [setPad, List.getD_eq_getElem?_getD, List.getElem?_set, List.length_append, List.length_replicate]
  by_cases h : j = i
  · subst h; rw [if_pos rfl, if_pos rfl, if_pos (by omega)]; rfl
  · rw [if_neg (fun e => h e.symm), if_neg h]
    by_cases hl : j < l.length
    · rw [List.getElem?_append_left hl]
    · rw [List.getElem?_append_right (by omega), List.getElem?_eq_none (l := l) (by omega), List.getElem?_replicate]
      split <;> rfl
theorem setPad_map {α β : Type} (f : α → β) (z : α) (l : List α) (i : Nat) (x : α) : (setPad z l i x).map f = setPad (f z) (l.map f) i (f x) := by
  simp [setPad, List.map_set]
theorem normK_map : ∀ l : List Tree, normK l = normsT l
  | [] => rfl
  | t :: r => by simp [normK, normsT, normK_map r]
theorem normsT_pad (l : List Tree) (i : Nat) (x : Tree) : normsT (setPad Tree.nil l i x) = setPad Tree.nil (normsT l) i (normT x) := by
  rw [normsT, setPad_map, normT_nil]; rfl
theorem norms_pad {a b : List Tree} {i : Nat} {x y : Tree} (h : normsT a = normsT b) (hx : normT x = normT y) : normsT (setPad Tree.nil a i x) = normsT (setPad Tree.nil b i y) := by
  rw [normsT_pad, normsT_pad, h, hx]
theorem norms_app {a b c d : List Tree} (h : normsT a = normsT b) (hx : normsT c = normsT d) : normsT (a ++ c) = normsT (b ++ d) := by
  rw [normsT_append, normsT_append, h, hx]
theorem normT_mk (k : Int) (w : List Int) {a b : List Tree} (h : normsT a = normsT b) : normT (.mk k w a) = normT (.mk k w b) := by
  simp only [normT, normK_map, h]
theorem norms_len {a b : List Tree} (h : normsT a = normsT b) : a.length = b.length := by
  have := congrArg List.length h
  simpa [normsT] using this
theorem norms_one {a b : Tree} : normsT [a] = normsT [b] ↔ normT a = normT b := by simp [normsT]

def OptR {α β : Type} (R : α → β → Prop) : Option α → Option β → Prop
  | none, none => True
  | some a, some b => R a b
  | _, _ => False
theorem OptR.rfl' {α : Type} (a : Option α) : OptR Eq a a := by cases a; exact trivial; exact rfl
theorem OptR.bind {α β γ δ : Type} {R : α → β → Prop} {S : γ → δ → Prop} {a : Option α} {b : Option β} {f : α → Option γ} {g : β → Option δ} (h : OptR R a b) (hf : ∀ x y, R x y → OptR S (f x) (g y)) : OptR S (a.bind f) (b.bind g) := by
  cases a <;> cases b <;> first | exact trivial | exact h.elim | exact hf _ _ h
theorem OptR.map {α β γ δ : Type} {R : α → β → Prop} {S : γ → δ → Prop} {a : Option α} {b : Option β} {f : α → γ} {g : β → δ} (h : OptR R a b) (hf : ∀ x y, R x y → S (f x) (g y)) : OptR S (a.map f) (b.map g) := by
  cases a <;> cases b <;> first | exact trivial | exact h.elim | exact hf _ _ h
theorem OptR.ite {α β : Type} {R : α → β → Prop} {p q : Prop} [Decidable p] [Decidable q] {a c : Option α} {b d : Option β} (h : p ↔ q) (h1 : p → OptR R a b) (h2 : ¬p → OptR R c d) : OptR R (if p then a else c) (if q then b else d) := by
  by_cases hp : p
  · rw [if_pos hp, if_pos (h.1 hp)]; exact h1 hp
  · rw [if_neg hp, if_neg (fun hq => hp (h.2 hq))]; exact h2 hp
theorem OptR.mono {α β : Type} {R S : α → β → Prop} {a : Option α} {b : Option β} (h : OptR R a b) (hf : ∀ x y, R x y → S x y) : OptR S a b := by
  cases a <;> cases b <;> first | exact trivial | exact h.elim | exact hf _ _ h
theorem OptR.normed {a b : Option Tree} (h : OptR (fun x y => normT x = normT y) a b) : a.map normT = b.map normT := by
  cases a <;> cases b <;> first | rfl | exact h.elim | exact congrArg some h
def Eqv (x y : Tree) : Prop := normT x = normT y
def EqvL (x y : List Tree) : Prop := normsT x = normsT y
theorem EqvL.len {x y : List Tree} (h : EqvL x y) : x.length = y.length := norms_len h
theorem endD_rel {a b : Option (List Tree × List Tree)} (h : OptR (fun x y => EqvL x.1 y.1 ∧ EqvL x.2 y.2) a b) : OptR EqvL (endD a) (endD b) := by
  unfold endD
  refine h.bind fun x y hxy => ?_
  exact OptR.ite (by rw [hxy.2.len]) (fun _ => hxy.1) (fun _ => trivial)

mutual
theorem doE_nr : ∀ (e : Edit) (t : Tree), OptR Eqv (doE true e t) (doE false e t)
  | .mk k o n w ks l os, t => by
    have h1 := doKs_nr ks t.kids t.kids t.kids rfl
    have h2 := doOs_nr os t.kids [] [] rfl
    rw [doE_at, doE_at, nrD_false]
    show OptR Eqv (Option.map (nrD true) _) _
    suffices h : ∀ a b, OptR Eqv a b → OptR Eqv (Option.map (nrD true) a) b by
      refine h _ _ ?_
      refine OptR.ite Iff.rfl (fun _ => rfl) fun _ => OptR.ite Iff.rfl (fun _ => OptR.ite Iff.rfl (fun _ => rfl) (fun _ => trivial)) fun _ => OptR.ite Iff.rfl (fun _ => ?_) fun _ => OptR.ite Iff.rfl (fun _ => ?_) (fun _ => trivial)
      · refine OptR.ite Iff.rfl (fun _ => ?_) (fun _ => trivial)
        refine OptR.bind (R := Eq) (OptR.rfl' _) ?_
        rintro a _ rfl
        exact h1.map fun x y h => normT_mk _ _ h
      · refine OptR.ite Iff.rfl (fun _ => ?_) (fun _ => trivial)
        exact (endD_rel (h2.mono fun x y h => ⟨h.1, by rw [h.2]; rfl⟩)).map fun x y h => normT_mk _ _ h
    intro a b h
    cases a <;> cases b <;> first | exact trivial | exact h.elim | skip
    unfold Eqv nrD at *
    simp only [Option.map_some, if_true]
    show normT (normT _) = _
    rw [normT_idem]
    exact h
theorem doKs_nr : ∀ (ks : List (KidOf Edit)) (tk a b : List Tree), EqvL a b → OptR EqvL (doKs true tk ks a) (doKs false tk ks b)
  | [], _, _, _, h => h
  | k :: r, tk, a, b, h => by
    rw [doKs, doKs]
    refine (doKid_nr k tk).bind fun x y hxy => doKs_nr r tk _ _ (norms_pad h hxy)
theorem doKid_nr : ∀ (k : KidOf Edit) (tk : List Tree), OptR Eqv (doKid true tk k) (doKid false tk k)
  | ⟨_, e⟩, tk => by rw [doKid, doKid]; exact doE_nr e _
theorem doOs_nr : ∀ (os : List (OpOf Edit)) (rest a b : List Tree), EqvL a b → OptR (fun x y => EqvL x.1 y.1 ∧ x.2 = y.2) (doOs true os rest a) (doOs false os rest b)
  | [], rest, a, b, h => ⟨h, rfl⟩
  | o :: r, rest, a, b, h => by
    rw [doOs, doOs]
    refine (doOp_nr o rest a b h).bind fun x y hxy => ?_
    rw [hxy.2]
    exact doOs_nr r _ _ _ hxy.1
theorem doOp_nr : ∀ (o : OpOf Edit) (rest a b : List Tree), EqvL a b → OptR (fun x y => EqvL x.1 y.1 ∧ x.2 = y.2) (doOp true o rest a) (doOp false o rest b)
  | ⟨k, n, l, e⟩, rest, a, b, h => by
    have he := doE_nr e (rest.getD 0 Tree.nil)
    rw [doOp, doOp]
    refine OptR.ite Iff.rfl (fun _ => OptR.ite Iff.rfl (fun _ => ⟨norms_app h rfl, rfl⟩) (fun _ => trivial)) fun _ => OptR.ite Iff.rfl (fun _ => OptR.ite Iff.rfl (fun _ => ⟨h, rfl⟩) (fun _ => trivial)) fun _ => OptR.ite Iff.rfl (fun _ => ⟨norms_app h rfl, rfl⟩) fun _ => OptR.ite Iff.rfl (fun _ => trivial) fun _ => ?_
    exact he.map fun x y h' => ⟨norms_app h (norms_one.2 h'), rfl⟩
end

theorem doE_norm (e : Edit) (t : Tree) : (doE true e t) = (doE false e t).map normT := by
  have h := doE_nr e t
  have hi : (doE true e t).map normT = doE true e t := by
    rw [doE_at]
    generalize ite (e.kind = 0) _ _ = x
    cases x with
    | none => rfl
    | some u => simp [nrD, normT_idem]
  rw [← hi]
  exact h.normed


end Go.AM.Ytlahjnelghpmeaa

namespace Go.AM.Ytlahjnelghpmeaa
open Go.AM Go.Proofs

def args1071 : ArgL (List Int × Unit) := (.cons (aSl .u64) .nil)
def pre1071 (a : List Int × Unit) : Prop := a.1.length ≤ 1000000000000
noncomputable def resL1071 (a : List Int × Unit) : List Int := a.1
noncomputable def spec1071 : Fs U := fsL args1071 (fun a => [pre1071 a]) .u64 resL1071

def args126 : ArgL (List Tree × Unit) := (.cons (aSl .tree) .nil)
def pre126 (a : List Tree × Unit) : Prop := a.1.length ≤ 1000000000000
noncomputable def resL126 (a : List Tree × Unit) : List Tree := a.1
noncomputable def spec126 : Fs U := fsL args126 (fun a => [pre126 a]) .tree resL126

def args82 : ArgL (Edit × Tree × Unit) := (.cons (aEl .edit) (.cons (aEl .tree) .nil))
def pre82 (a : Edit × Tree × Unit) : Prop := (massE a.1 ≤ 1000000 ∧ rngE a.1 ∧ ∃ d, rightE a.1 d = true) ∧ mass a.2.1 ≤ 100000000000 ∧ rng a.2.1
def mu82 (a : Edit × Tree × Unit) : Nat := 2 * massE a.1 + 1
noncomputable def res82 (a : Edit × Tree × Unit) : V U := .tup [(true, [.int .i64 (Tree.kind (oneT a.1 a.2.1)), .slice (U := U) .u64 (Tree.words (oneT a.1 a.2.1)) .unk, .slice (U := U) .tree (Tree.kids (oneT a.1 a.2.1)) .unk]), (false, [.bool ((doE false a.1 a.2.1).isSome)])]
noncomputable def spec82 : Fs U := fs args82 (fun a => [pre82 a]) res82

def args113 : ArgL (Edit × Tree × Unit) := (.cons (aEl .edit) (.cons (aEl .tree) .nil))
def pre113 (a : Edit × Tree × Unit) : Prop := Edit.kind a.1 = 2 ∧ (massE a.1 ≤ 1000000 ∧ rngE a.1 ∧ ∃ d, rightE a.1 d = true) ∧ mass a.2.1 ≤ 100000000000 ∧ rng a.2.1
def mu113 (a : Edit × Tree × Unit) : Nat := 2 * massE a.1
noncomputable def res113 (a : Edit × Tree × Unit) : V U := .tup [(true, [.int .i64 (Tree.kind (orNil (strD false a.1 a.2.1))), .slice (U := U) .u64 (Tree.words (orNil (strD false a.1 a.2.1))) .unk, .slice (U := U) .tree (Tree.kids (orNil (strD false a.1 a.2.1))) .unk]), (false, [.bool ((strD false a.1 a.2.1).isSome)])]
noncomputable def spec113 : Fs U := fs args113 (fun a => [pre113 a]) res113

def args114 : ArgL (Edit × Tree × Unit) := (.cons (aEl .edit) (.cons (aEl .tree) .nil))
def pre114 (a : Edit × Tree × Unit) : Prop := Edit.kind a.1 = 3 ∧ (massE a.1 ≤ 1000000 ∧ rngE a.1 ∧ ∃ d, rightE a.1 d = true) ∧ mass a.2.1 ≤ 100000000000 ∧ rng a.2.1
def mu114 (a : Edit × Tree × Unit) : Nat := 2 * massE a.1
noncomputable def res114 (a : Edit × Tree × Unit) : V U := .tup [(true, [.int .i64 (Tree.kind (lstT a.1 (lstD false a.1 a.2.1))), .slice (U := U) .u64 (Tree.words (lstT a.1 (lstD false a.1 a.2.1))) .unk, .slice (U := U) .tree (Tree.kids (lstT a.1 (lstD false a.1 a.2.1))) .unk]), (false, [.bool ((endD (lstD false a.1 a.2.1)).isSome)])]
noncomputable def spec114 : Fs U := fs args114 (fun a => [pre114 a]) res114

noncomputable def know1071 : List (FuncId × Fs U) := []
def lv1071 : Lives U := fun i => match i with
  | 0 => ([(0, [])], [])
  | 1 => ([(0, []), (4, [])], [])
  | 2 => ([(2, [.wr .u64])], [])
  | 3 => ([(2, [.wr .u64])], [])
  | _ => ([], [])
noncomputable abbrev A1071 (p : List Nat) := awp cfg (knowM know1071) (drawOk cfg (knowM know1071)) Try.f71.ntmps lv1071 (cd Try.f71 p)
theorem vc1071 (l : List Int) (Q : AExit → LSt U → Prop) (h : ((((l = []) → (Q .ret (⟨[(2, .c (.mref (.e 2 0)))], [], [(.e 2 0, LC.mk (U := U) .u64 ([]) 0)]⟩ : LSt U))) ∧ ((True) → ((([] : List Int).length + l.length) * 8 ≤ 140737488355328) ∧ (Q .ret (⟨[(2, .c (.mref (.e 2 0)))], [], [(.e 2 0, LC.mk (U := U) .u64 (([] : List Int) ++ l) (([] : List Int).length))]⟩ : LSt U)))))) :
    A1071 [] (⟨[(0, .c (.slice (U := U) .u64 l .unk))], [], []⟩ : LSt U) Q :=
  Eq.mpr (by kernel_rfl) h
def Body1071 (l : List Int)  : Prop := awp cfg (knowM (know1071)) (drawOk cfg (knowM (know1071))) Try.f71.ntmps lv1071 (cd Try.f71 []) (entry (args1071.can (l, ())) []) (EndsQL cfg Try.f71.ntmps Try.f71.results.toList (.c (.mref (.r 0 0))) [] [(.r 0 0, LC.mk (U := U) .u64 (resL1071 (l, ())) 0)])
theorem make1071 (hb : ∀ (l : List Int) (_ : Unit), pre1071 (l, ()) → Body1071 l) : Contract Try.prog cfg 71 spec1071 :=
  contractL_flat (l := []) cfgOk rfl (trivial) lv1071 Try.func71 rfl rfl 1 (fun _ => rfl) (by decide) (fun ⟨l, _⟩ => hb l ())

noncomputable def know126 : List (FuncId × Fs U) := []
def lv126 : Lives U := fun i => match i with
  | 0 => ([(0, [])], [])
  | 1 => ([(0, []), (4, [])], [])
  | 2 => ([(2, [.wr .tree])], [])
  | 3 => ([(2, [.wr .tree])], [])
  | _ => ([], [])
noncomputable abbrev A126 (p : List Nat) := awp cfg (knowM know126) (drawOk cfg (knowM know126)) Try.f126.ntmps lv126 (cd Try.f126 p)
theorem vc126 (l : List Tree) (Q : AExit → LSt U → Prop) (h : ((((l = []) → (Q .ret (⟨[(2, .c (.mref (.e 2 0)))], [], [(.e 2 0, LC.mk (U := U) .tree ([]) 0)]⟩ : LSt U))) ∧ ((True) → ((([] : List Tree).length + l.length) * 56 ≤ 140737488355328) ∧ (Q .ret (⟨[(2, .c (.mref (.e 2 0)))], [], [(.e 2 0, LC.mk (U := U) .tree (([] : List Tree) ++ l) (([] : List Tree).length))]⟩ : LSt U)))))) :
    A126 [] (⟨[(0, .c (.slice (U := U) .tree l .unk))], [], []⟩ : LSt U) Q :=
  Eq.mpr (by kernel_rfl) h
def Body126 (l : List Tree)  : Prop := awp cfg (knowM (know126)) (drawOk cfg (knowM (know126))) Try.f126.ntmps lv126 (cd Try.f126 []) (entry (args126.can (l, ())) []) (EndsQL cfg Try.f126.ntmps Try.f126.results.toList (.c (.mref (.r 0 0))) [] [(.r 0 0, LC.mk (U := U) .tree (resL126 (l, ())) 0)])
theorem make126 (hb : ∀ (l : List Tree) (_ : Unit), pre126 (l, ()) → Body126 l) : Contract Try.prog cfg 126 spec126 :=
  contractL_flat (l := []) cfgOk rfl (trivial) lv126 Try.func126 rfl rfl 1 (fun _ => rfl) (by decide) (fun ⟨l, _⟩ => hb l ())

noncomputable def know82 (N : Nat) : List (FuncId × Fs U) := (82, fs args82 (fun a => [pre82 a, mu82 a < N]) res82) :: (113, fs args113 (fun a => [pre113 a, mu113 a < N]) res113) :: (114, fs args114 (fun a => [pre114 a, mu114 a < N]) res114) :: [(34, spec34), (73, spec73), (74, spec74), (96, spec96), (126, spec126), (127, spec127), (71, spec1071)]
def lv82 : Lives U := fun i => match i with
  | 0 => ([(2, []), (3, []), (4, [])], [((.loc 2), []), ((.loc 3), []), ((.loc 4), [])])
  | 1 => ([(2, []), (3, []), (4, []), (7, [])], [((.loc 2), []), ((.loc 3), []), ((.loc 4), [])])
  | 2 => ([(2, []), (3, []), (4, []), (7, []), (8, [])], [((.loc 2), []), ((.loc 3), []), ((.loc 4), [])])
  | 3 => ([(4, []), (5, [])], [((.loc 4), [])])
  | 4 => ([(2, []), (3, []), (4, []), (7, []), (11, [])], [((.loc 2), []), ((.loc 3), []), ((.loc 4), [])])
  | 5 => ([(4, []), (5, [])], [((.loc 4), [])])
  | 6 => ([(2, []), (3, []), (4, []), (7, []), (19, [])], [((.loc 2), []), ((.loc 3), []), ((.loc 4), [])])
  | 7 => ([(4, []), (5, [])], [((.loc 4), [])])
  | 8 => ([(2, []), (3, []), (4, []), (26, [])], [((.loc 2), []), ((.loc 3), []), ((.loc 4), [])])
  | 9 => ([(4, []), (5, [])], [((.loc 4), [])])
  | 10 => ([(4, []), (5, [])], [((.loc 4), [])])
  | _ => ([], [])
noncomputable abbrev A82 (N : Nat) (p : List Nat) := awp cfg (know (know82 N)) (drawOk cfg (know (know82 N))) Try.f82.ntmps lv82 (cd Try.f82 p)
theorem vc82 (N : Nat) (e : Edit) (t : Tree) (Q : AExit → LSt U → Prop) (h : ∀ y_1, y_1 = (e) → ∀ y_2, y_2 = (t) → ∀ y_3, y_3 = ((Edit.old e)) → (((((((Edit.kind e) : Int) == 0) = true → (Q .ret (⟨[(4, .ptr (.loc 4) 0), (5, .c (.bool true))], [((.loc 4), [.int .i64 (Tree.kind t), .slice (U := U) .u64 (Tree.words t) .unk, .slice (U := U) .tree (Tree.kids t) .unk])], []⟩ : LSt U))) ∧ ((((Edit.kind e) : Int) == 0) = false → (((((Edit.kind e) : Int) == 1) = true → (pre34 (y_3, y_2, ())) ∧ (Q .ret (⟨[(4, .ptr (.loc 4) 0), (5, .c (.bool (sameT (normT y_3) (normT y_2))))], [((.loc 4), [.int .i64 (Tree.kind (Edit.new e)), .slice (U := U) .u64 (Tree.words (Edit.new e)) .unk, .slice (U := U) .tree (Tree.kids (Edit.new e)) .unk])], []⟩ : LSt U))) ∧ ((((Edit.kind e) : Int) == 1) = false → (((((Edit.kind e) : Int) == 2) = true → (pre113 (y_1, y_2, ())) ∧ (mu113 (y_1, y_2, ()) < N) ∧ (Q .ret (⟨[(4, .ptr (.loc 4) 0), (5, .c (.bool ((strD false y_1 y_2).isSome)))], [((.loc 4), [.int .i64 (Tree.kind (orNil (strD false y_1 y_2))), .slice (U := U) .u64 (Tree.words (orNil (strD false y_1 y_2))) .unk, .slice (U := U) .tree (Tree.kids (orNil (strD false y_1 y_2))) .unk])], []⟩ : LSt U))) ∧ ((((Edit.kind e) : Int) == 2) = false → (((((Edit.kind e) : Int) == 3) = true → (pre114 (y_1, y_2, ())) ∧ (mu114 (y_1, y_2, ()) < N) ∧ (Q .ret (⟨[(4, .ptr (.loc 4) 0), (5, .c (.bool ((endD (lstD false y_1 y_2)).isSome)))], [((.loc 4), [.int .i64 (Tree.kind (lstT y_1 (lstD false y_1 y_2))), .slice (U := U) .u64 (Tree.words (lstT y_1 (lstD false y_1 y_2))) .unk, .slice (U := U) .tree (Tree.kids (lstT y_1 (lstD false y_1 y_2))) .unk])], []⟩ : LSt U))) ∧ ((((Edit.kind e) : Int) == 3) = false → (Q .ret (⟨[(4, .ptr (.loc 4) 0), (5, .c (.bool false))], [((.loc 4), [.int .i64 0, .nils, .nils])], []⟩ : LSt U))))))))))))) :
    A82 N [] (⟨[(0, .agg [.int .i64 (Edit.kind e), .int .i64 (Tree.kind (Edit.old e)), .slice (U := U) .u64 (Tree.words (Edit.old e)) .unk, .slice (U := U) .tree (Tree.kids (Edit.old e)) .unk, .int .i64 (Tree.kind (Edit.new e)), .slice (U := U) .u64 (Tree.words (Edit.new e)) .unk, .slice (U := U) .tree (Tree.kids (Edit.new e)) .unk, .slice (U := U) .wedit (Edit.words e) .unk, .slice (U := U) .kid (Edit.kids e) .unk, .int .i64 (Edit.list e), .slice (U := U) .op (Edit.ops e) .unk]), (1, .agg [.int .i64 (Tree.kind t), .slice (U := U) .u64 (Tree.words t) .unk, .slice (U := U) .tree (Tree.kids t) .unk])], [], []⟩ : LSt U) Q :=
  Eq.mpr (by kernel_rfl) (h _ (reEdit_eq _) _ (reTree_eq _) _ (reTree_eq _))
def Body82 (N : Nat) (e : Edit) (t : Tree)  : Prop := awp cfg (know (know82 N)) (drawOk cfg (know (know82 N))) Try.f82.ntmps lv82 (cd Try.f82 []) (entry (args82.can (e, t, ())) []) (EndsQ cfg Try.f82.ntmps Try.f82.results.toList (res82 (e, t, ())) [])
abbrev HB82 : Prop := ∀ (N : Nat) (e : Edit) (t : Tree) (_ : Unit), pre82 (e, t, ()) → mu82 (e, t, ()) < N + 1 → Body82 N e t

noncomputable def know113 (N : Nat) : List (FuncId × Fs U) := (82, fs args82 (fun a => [pre82 a, mu82 a < N]) res82) :: (113, fs args113 (fun a => [pre113 a, mu113 a < N]) res113) :: (114, fs args114 (fun a => [pre114 a, mu114 a < N]) res114) :: [(34, spec34), (73, spec73), (74, spec74), (96, spec96), (126, spec126), (127, spec127), (71, spec1071)]
def lv113 : Lives U := fun i => match i with
  | 0 => ([(2, []), (3, []), (4, [])], [((.loc 2), []), ((.loc 3), []), ((.loc 4), [])])
  | 1 => ([(2, []), (3, []), (4, []), (16, [])], [((.loc 2), []), ((.loc 3), []), ((.loc 4), [])])
  | 2 => ([(4, []), (5, [])], [((.loc 4), [])])
  | 3 => ([(2, []), (3, []), (4, []), (6, [])], [((.loc 2), []), ((.loc 3), []), ((.loc 4), []), ((.loc 6), [.any, .wr .u64, .wr .tree])])
  | 4 => ([(2, []), (3, []), (4, []), (6, []), (26, []), (27, []), (28, [])], [((.loc 2), []), ((.loc 3), []), ((.loc 4), []), ((.loc 6), [.any, .wr .u64, .wr .tree])])
  | 5 => ([(2, []), (3, []), (4, []), (6, []), (26, []), (27, []), (28, []), (29, [])], [((.loc 2), []), ((.loc 3), []), ((.loc 4), []), ((.loc 6), [.any, .wr .u64, .wr .tree])])
  | 6 => ([(2, []), (3, []), (4, []), (6, []), (8, []), (26, []), (27, []), (28, [])], [((.loc 2), []), ((.loc 3), []), ((.loc 4), []), ((.loc 6), [.any, .wr .u64, .wr .tree]), ((.loc 8), [])])
  | 7 => ([(2, []), (3, []), (4, []), (6, []), (8, []), (9, []), (26, []), (27, []), (28, [])], [((.loc 2), []), ((.loc 3), []), ((.loc 4), []), ((.loc 6), [.any, .wr .u64, .wr .tree]), ((.loc 8), [])])
  | 8 => ([(2, []), (3, []), (4, []), (6, []), (8, []), (9, []), (26, []), (27, []), (28, []), (42, [])], [((.loc 2), []), ((.loc 3), []), ((.loc 4), []), ((.loc 6), [.any, .wr .u64, .wr .tree]), ((.loc 8), [])])
  | 9 => ([(4, []), (5, [])], [((.loc 4), [])])
  | 10 => ([(2, []), (3, []), (4, []), (6, []), (8, []), (9, []), (26, []), (27, []), (28, []), (42, []), (49, [])], [((.loc 2), []), ((.loc 3), []), ((.loc 4), []), ((.loc 6), [.any, .wr .u64, .wr .tree]), ((.loc 8), [])])
  | 11 => ([(2, []), (3, []), (4, []), (6, []), (8, []), (9, []), (26, []), (27, []), (28, []), (42, [])], [((.loc 2), []), ((.loc 3), []), ((.loc 4), []), ((.loc 6), [.any, .wr .u64, .wr .tree]), ((.loc 8), [])])
  | 12 => ([(2, []), (3, []), (4, []), (6, []), (26, []), (27, []), (28, [])], [((.loc 2), []), ((.loc 3), []), ((.loc 4), []), ((.loc 6), [.any, .wr .u64, .wr .tree])])
  | 13 => ([(2, []), (3, []), (4, []), (6, []), (26, []), (27, []), (28, [])], [((.loc 2), []), ((.loc 3), []), ((.loc 4), []), ((.loc 6), [.any, .wr .u64, .wr .tree])])
  | 14 => ([(3, []), (4, []), (6, []), (68, []), (69, []), (70, [])], [((.loc 3), []), ((.loc 4), []), ((.loc 6), [.any, .wr .u64, .wr .tree])])
  | 15 => ([(3, []), (4, []), (6, []), (68, []), (69, []), (70, []), (71, [])], [((.loc 3), []), ((.loc 4), []), ((.loc 6), [.any, .wr .u64, .wr .tree])])
  | 16 => ([(3, []), (4, []), (6, []), (11, []), (68, []), (69, []), (70, [])], [((.loc 3), []), ((.loc 4), []), ((.loc 6), [.any, .wr .u64, .wr .tree]), ((.loc 11), [])])
  | 17 => ([(3, []), (4, []), (6, []), (11, []), (12, []), (13, []), (68, []), (69, []), (70, [])], [((.loc 3), []), ((.loc 4), []), ((.loc 6), [.any, .wr .u64, .wr .tree]), ((.loc 11), []), ((.loc 12), [])])
  | 18 => ([(3, []), (4, []), (6, []), (11, []), (12, []), (68, []), (69, []), (70, []), (85, [])], [((.loc 3), []), ((.loc 4), []), ((.loc 6), [.any, .wr .u64, .wr .tree]), ((.loc 11), []), ((.loc 12), [])])
  | 19 => ([(4, []), (5, [])], [((.loc 4), [])])
  | 20 => ([(3, []), (4, []), (6, []), (11, []), (12, []), (68, []), (69, []), (70, []), (85, []), (92, [])], [((.loc 3), []), ((.loc 4), []), ((.loc 6), [.any, .wr .u64, .wr .tree]), ((.loc 11), []), ((.loc 12), [])])
  | 21 => ([(3, []), (4, []), (6, []), (11, []), (12, []), (68, []), (69, []), (70, []), (85, [])], [((.loc 3), []), ((.loc 4), []), ((.loc 6), [.any, .wr .u64, .wr .tree]), ((.loc 11), []), ((.loc 12), [])])
  | 22 => ([(3, []), (4, []), (6, []), (68, []), (69, []), (70, [])], [((.loc 3), []), ((.loc 4), []), ((.loc 6), [.any, .wr .u64, .wr .tree])])
  | 23 => ([(3, []), (4, []), (6, []), (68, []), (69, []), (70, [])], [((.loc 3), []), ((.loc 4), []), ((.loc 6), [.any, .wr .u64, .wr .tree])])
  | 24 => ([(4, []), (5, [])], [((.loc 4), [])])
  | _ => ([], [])
noncomputable def head113_0 (e : Edit) (t : Tree) (x28 : Int) (rl_6_1 : List Int) : LSt U := (⟨[(2, .ptr (.loc 2) 0), (3, .ptr (.loc 3) 0), (4, .ptr (.loc 4) 0), (6, .ptr (.loc 6) 0), (26, .c (.slice (U := U) .wedit (Edit.words e) .unk)), (27, .c (.int .i64 ((Edit.words e).length : Int))), (28, .c (.int .i64 x28))], [((.loc 2), [.int .i64 (Edit.kind e), .int .i64 (Tree.kind (Edit.old e)), .slice (U := U) .u64 (Tree.words (Edit.old e)) .unk, .slice (U := U) .tree (Tree.kids (Edit.old e)) .unk, .int .i64 (Tree.kind (Edit.new e)), .slice (U := U) .u64 (Tree.words (Edit.new e)) .unk, .slice (U := U) .tree (Tree.kids (Edit.new e)) .unk, .slice (U := U) .wedit (Edit.words e) .unk, .slice (U := U) .kid (Edit.kids e) .unk, .int .i64 (Edit.list e), .slice (U := U) .op (Edit.ops e) .unk]), ((.loc 3), [.int .i64 (Tree.kind t), .slice (U := U) .u64 (Tree.words t) .unk, .slice (U := U) .tree (Tree.kids t) .unk]), ((.loc 4), [.int .i64 0, .nils, .nils]), ((.loc 6), [.int .i64 1, .mref (.l 6 1), .mref (.l 6 2)])], [(.l 6 1, LC.mk (U := U) .u64 rl_6_1 0), (.l 6 2, LC.mk (U := U) .tree (Tree.kids t) 0)]⟩ : LSt U)
noncomputable def head113_1 (e : Edit) (t : Tree) (x28 : Int) (rl_6_1_a : List Int) : LSt U := (⟨[(2, .ptr (.loc 2) 0), (3, .ptr (.loc 3) 0), (4, .ptr (.loc 4) 0), (6, .ptr (.loc 6) 0), (8, .ptr (.loc 8) 0), (9, .c (.int .u64 (wordAt (Tree.mk (Tree.kind t) (Tree.words t) (Tree.kids t)) (WEdit.at_ (List.getD (Edit.words e) (Int.toNat x28) (WEdit.mk 0 0 0 0)))))), (26, .c (.slice (U := U) .wedit (Edit.words e) .unk)), (27, .c (.int .i64 ((Edit.words e).length : Int))), (28, .c (.int .i64 x28)), (42, .c (.bool (((mix 0 (wordAt (Tree.mk (Tree.kind t) (Tree.words t) (Tree.kids t)) (WEdit.at_ (List.getD (Edit.words e) (Int.toNat x28) (WEdit.mk 0 0 0 0)))) (WEdit.mask (List.getD (Edit.words e) (Int.toNat x28) (WEdit.mk 0 0 0 0)))) : Int) != (WEdit.old (List.getD (Edit.words e) (Int.toNat x28) (WEdit.mk 0 0 0 0))))))], [((.loc 2), [.int .i64 (Edit.kind e), .int .i64 (Tree.kind (Edit.old e)), .slice (U := U) .u64 (Tree.words (Edit.old e)) .unk, .slice (U := U) .tree (Tree.kids (Edit.old e)) .unk, .int .i64 (Tree.kind (Edit.new e)), .slice (U := U) .u64 (Tree.words (Edit.new e)) .unk, .slice (U := U) .tree (Tree.kids (Edit.new e)) .unk, .slice (U := U) .wedit (Edit.words e) .unk, .slice (U := U) .kid (Edit.kids e) .unk, .int .i64 (Edit.list e), .slice (U := U) .op (Edit.ops e) .unk]), ((.loc 3), [.int .i64 (Tree.kind t), .slice (U := U) .u64 (Tree.words t) .unk, .slice (U := U) .tree (Tree.kids t) .unk]), ((.loc 4), [.int .i64 0, .nils, .nils]), ((.loc 6), [.int .i64 1, .mref (.l 6 1), .mref (.l 6 2)]), ((.loc 8), [.int .i64 (WEdit.at_ (List.getD (Edit.words e) (Int.toNat x28) (WEdit.mk 0 0 0 0))), .int .u8 (WEdit.mask (List.getD (Edit.words e) (Int.toNat x28) (WEdit.mk 0 0 0 0))), .int .u64 (WEdit.old (List.getD (Edit.words e) (Int.toNat x28) (WEdit.mk 0 0 0 0))), .int .u64 (WEdit.new (List.getD (Edit.words e) (Int.toNat x28) (WEdit.mk 0 0 0 0)))])], [(.l 6 1, LC.mk (U := U) .u64 rl_6_1_a 0), (.l 6 2, LC.mk (U := U) .tree (Tree.kids t) 0)]⟩ : LSt U)
noncomputable def head113_2 (e : Edit) (t : Tree) (rl_6_1 : List Int) (x70_b : Int) (rl_6_2_b : List Tree) : LSt U := (⟨[(3, .ptr (.loc 3) 0), (4, .ptr (.loc 4) 0), (6, .ptr (.loc 6) 0), (68, .c (.slice (U := U) .kid (Edit.kids e) .unk)), (69, .c (.int .i64 ((Edit.kids e).length : Int))), (70, .c (.int .i64 x70_b))], [((.loc 3), [.int .i64 (Tree.kind t), .slice (U := U) .u64 (Tree.words t) .unk, .slice (U := U) .tree (Tree.kids t) .unk]), ((.loc 4), [.int .i64 0, .nils, .nils]), ((.loc 6), [.int .i64 1, .mref (.l 6 1), .mref (.l 6 2)])], [(.l 6 1, LC.mk (U := U) .u64 rl_6_1 0), (.l 6 2, LC.mk (U := U) .tree rl_6_2_b 0)]⟩ : LSt U)
noncomputable def head113_3 (e : Edit) (t : Tree) (rl_6_1 : List Int) (x70_b : Int) (rl_6_2_c : List Tree) : LSt U := (⟨[(3, .ptr (.loc 3) 0), (4, .ptr (.loc 4) 0), (6, .ptr (.loc 6) 0), (11, .ptr (.loc 11) 0), (12, .ptr (.loc 12) 0), (68, .c (.slice (U := U) .kid (Edit.kids e) .unk)), (69, .c (.int .i64 ((Edit.kids e).length : Int))), (70, .c (.int .i64 x70_b)), (85, .c (.bool (!((doE false (Edit.mk (Edit.kind (KidOf.e (List.getD (Edit.kids e) (Int.toNat x70_b) (KidOf.mk 0 Edit.nil)))) (Tree.mk (Tree.kind (Edit.old (KidOf.e (List.getD (Edit.kids e) (Int.toNat x70_b) (KidOf.mk 0 Edit.nil))))) (Tree.words (Edit.old (KidOf.e (List.getD (Edit.kids e) (Int.toNat x70_b) (KidOf.mk 0 Edit.nil))))) (Tree.kids (Edit.old (KidOf.e (List.getD (Edit.kids e) (Int.toNat x70_b) (KidOf.mk 0 Edit.nil)))))) (Tree.mk (Tree.kind (Edit.new (KidOf.e (List.getD (Edit.kids e) (Int.toNat x70_b) (KidOf.mk 0 Edit.nil))))) (Tree.words (Edit.new (KidOf.e (List.getD (Edit.kids e) (Int.toNat x70_b) (KidOf.mk 0 Edit.nil))))) (Tree.kids (Edit.new (KidOf.e (List.getD (Edit.kids e) (Int.toNat x70_b) (KidOf.mk 0 Edit.nil)))))) (Edit.words (KidOf.e (List.getD (Edit.kids e) (Int.toNat x70_b) (KidOf.mk 0 Edit.nil)))) (Edit.kids (KidOf.e (List.getD (Edit.kids e) (Int.toNat x70_b) (KidOf.mk 0 Edit.nil)))) (Edit.list (KidOf.e (List.getD (Edit.kids e) (Int.toNat x70_b) (KidOf.mk 0 Edit.nil)))) (Edit.ops (KidOf.e (List.getD (Edit.kids e) (Int.toNat x70_b) (KidOf.mk 0 Edit.nil))))) (Tree.mk (Tree.kind (kidAt (Tree.mk (Tree.kind t) (Tree.words t) (Tree.kids t)) (KidOf.at_ (List.getD (Edit.kids e) (Int.toNat x70_b) (KidOf.mk 0 Edit.nil))))) (Tree.words (kidAt (Tree.mk (Tree.kind t) (Tree.words t) (Tree.kids t)) (KidOf.at_ (List.getD (Edit.kids e) (Int.toNat x70_b) (KidOf.mk 0 Edit.nil))))) (Tree.kids (kidAt (Tree.mk (Tree.kind t) (Tree.words t) (Tree.kids t)) (KidOf.at_ (List.getD (Edit.kids e) (Int.toNat x70_b) (KidOf.mk 0 Edit.nil))))))).isSome))))], [((.loc 3), [.int .i64 (Tree.kind t), .slice (U := U) .u64 (Tree.words t) .unk, .slice (U := U) .tree (Tree.kids t) .unk]), ((.loc 4), [.int .i64 0, .nils, .nils]), ((.loc 6), [.int .i64 1, .mref (.l 6 1), .mref (.l 6 2)]), ((.loc 11), [.int .i64 (KidOf.at_ (List.getD (Edit.kids e) (Int.toNat x70_b) (KidOf.mk 0 Edit.nil))), .int .i64 (Edit.kind (KidOf.e (List.getD (Edit.kids e) (Int.toNat x70_b) (KidOf.mk 0 Edit.nil)))), .int .i64 (Tree.kind (Edit.old (KidOf.e (List.getD (Edit.kids e) (Int.toNat x70_b) (KidOf.mk 0 Edit.nil))))), .slice (U := U) .u64 (Tree.words (Edit.old (KidOf.e (List.getD (Edit.kids e) (Int.toNat x70_b) (KidOf.mk 0 Edit.nil))))) .unk, .slice (U := U) .tree (Tree.kids (Edit.old (KidOf.e (List.getD (Edit.kids e) (Int.toNat x70_b) (KidOf.mk 0 Edit.nil))))) .unk, .int .i64 (Tree.kind (Edit.new (KidOf.e (List.getD (Edit.kids e) (Int.toNat x70_b) (KidOf.mk 0 Edit.nil))))), .slice (U := U) .u64 (Tree.words (Edit.new (KidOf.e (List.getD (Edit.kids e) (Int.toNat x70_b) (KidOf.mk 0 Edit.nil))))) .unk, .slice (U := U) .tree (Tree.kids (Edit.new (KidOf.e (List.getD (Edit.kids e) (Int.toNat x70_b) (KidOf.mk 0 Edit.nil))))) .unk, .slice (U := U) .wedit (Edit.words (KidOf.e (List.getD (Edit.kids e) (Int.toNat x70_b) (KidOf.mk 0 Edit.nil)))) .unk, .slice (U := U) .kid (Edit.kids (KidOf.e (List.getD (Edit.kids e) (Int.toNat x70_b) (KidOf.mk 0 Edit.nil)))) .unk, .int .i64 (Edit.list (KidOf.e (List.getD (Edit.kids e) (Int.toNat x70_b) (KidOf.mk 0 Edit.nil)))), .slice (U := U) .op (Edit.ops (KidOf.e (List.getD (Edit.kids e) (Int.toNat x70_b) (KidOf.mk 0 Edit.nil)))) .unk]), ((.loc 12), [.int .i64 (Tree.kind (oneT (Edit.mk (Edit.kind (KidOf.e (List.getD (Edit.kids e) (Int.toNat x70_b) (KidOf.mk 0 Edit.nil)))) (Tree.mk (Tree.kind (Edit.old (KidOf.e (List.getD (Edit.kids e) (Int.toNat x70_b) (KidOf.mk 0 Edit.nil))))) (Tree.words (Edit.old (KidOf.e (List.getD (Edit.kids e) (Int.toNat x70_b) (KidOf.mk 0 Edit.nil))))) (Tree.kids (Edit.old (KidOf.e (List.getD (Edit.kids e) (Int.toNat x70_b) (KidOf.mk 0 Edit.nil)))))) (Tree.mk (Tree.kind (Edit.new (KidOf.e (List.getD (Edit.kids e) (Int.toNat x70_b) (KidOf.mk 0 Edit.nil))))) (Tree.words (Edit.new (KidOf.e (List.getD (Edit.kids e) (Int.toNat x70_b) (KidOf.mk 0 Edit.nil))))) (Tree.kids (Edit.new (KidOf.e (List.getD (Edit.kids e) (Int.toNat x70_b) (KidOf.mk 0 Edit.nil)))))) (Edit.words (KidOf.e (List.getD (Edit.kids e) (Int.toNat x70_b) (KidOf.mk 0 Edit.nil)))) (Edit.kids (KidOf.e (List.getD (Edit.kids e) (Int.toNat x70_b) (KidOf.mk 0 Edit.nil)))) (Edit.list (KidOf.e (List.getD (Edit.kids e) (Int.toNat x70_b) (KidOf.mk 0 Edit.nil)))) (Edit.ops (KidOf.e (List.getD (Edit.kids e) (Int.toNat x70_b) (KidOf.mk 0 Edit.nil))))) (Tree.mk (Tree.kind (kidAt (Tree.mk (Tree.kind t) (Tree.words t) (Tree.kids t)) (KidOf.at_ (List.getD (Edit.kids e) (Int.toNat x70_b) (KidOf.mk 0 Edit.nil))))) (Tree.words (kidAt (Tree.mk (Tree.kind t) (Tree.words t) (Tree.kids t)) (KidOf.at_ (List.getD (Edit.kids e) (Int.toNat x70_b) (KidOf.mk 0 Edit.nil))))) (Tree.kids (kidAt (Tree.mk (Tree.kind t) (Tree.words t) (Tree.kids t)) (KidOf.at_ (List.getD (Edit.kids e) (Int.toNat x70_b) (KidOf.mk 0 Edit.nil)))))))), .slice (U := U) .u64 (Tree.words (oneT (Edit.mk (Edit.kind (KidOf.e (List.getD (Edit.kids e) (Int.toNat x70_b) (KidOf.mk 0 Edit.nil)))) (Tree.mk (Tree.kind (Edit.old (KidOf.e (List.getD (Edit.kids e) (Int.toNat x70_b) (KidOf.mk 0 Edit.nil))))) (Tree.words (Edit.old (KidOf.e (List.getD (Edit.kids e) (Int.toNat x70_b) (KidOf.mk 0 Edit.nil))))) (Tree.kids (Edit.old (KidOf.e (List.getD (Edit.kids e) (Int.toNat x70_b) (KidOf.mk 0 Edit.nil)))))) (Tree.mk (Tree.kind (Edit.new (KidOf.e (List.getD (Edit.kids e) (Int.toNat x70_b) (KidOf.mk 0 Edit.nil))))) (Tree.words (Edit.new (KidOf.e (List.getD (Edit.kids e) (Int.toNat x70_b) (KidOf.mk 0 Edit.nil))))) (Tree.kids (Edit.new (KidOf.e (List.getD (Edit.kids e) (Int.toNat x70_b) (KidOf.mk 0 Edit.nil)))))) (Edit.words (KidOf.e (List.getD (Edit.kids e) (Int.toNat x70_b) (KidOf.mk 0 Edit.nil)))) (Edit.kids (KidOf.e (List.getD (Edit.kids e) (Int.toNat x70_b) (KidOf.mk 0 Edit.nil)))) (Edit.list (KidOf.e (List.getD (Edit.kids e) (Int.toNat x70_b) (KidOf.mk 0 Edit.nil)))) (Edit.ops (KidOf.e (List.getD (Edit.kids e) (Int.toNat x70_b) (KidOf.mk 0 Edit.nil))))) (Tree.mk (Tree.kind (kidAt (Tree.mk (Tree.kind t) (Tree.words t) (Tree.kids t)) (KidOf.at_ (List.getD (Edit.kids e) (Int.toNat x70_b) (KidOf.mk 0 Edit.nil))))) (Tree.words (kidAt (Tree.mk (Tree.kind t) (Tree.words t) (Tree.kids t)) (KidOf.at_ (List.getD (Edit.kids e) (Int.toNat x70_b) (KidOf.mk 0 Edit.nil))))) (Tree.kids (kidAt (Tree.mk (Tree.kind t) (Tree.words t) (Tree.kids t)) (KidOf.at_ (List.getD (Edit.kids e) (Int.toNat x70_b) (KidOf.mk 0 Edit.nil)))))))) .unk, .slice (U := U) .tree (Tree.kids (oneT (Edit.mk (Edit.kind (KidOf.e (List.getD (Edit.kids e) (Int.toNat x70_b) (KidOf.mk 0 Edit.nil)))) (Tree.mk (Tree.kind (Edit.old (KidOf.e (List.getD (Edit.kids e) (Int.toNat x70_b) (KidOf.mk 0 Edit.nil))))) (Tree.words (Edit.old (KidOf.e (List.getD (Edit.kids e) (Int.toNat x70_b) (KidOf.mk 0 Edit.nil))))) (Tree.kids (Edit.old (KidOf.e (List.getD (Edit.kids e) (Int.toNat x70_b) (KidOf.mk 0 Edit.nil)))))) (Tree.mk (Tree.kind (Edit.new (KidOf.e (List.getD (Edit.kids e) (Int.toNat x70_b) (KidOf.mk 0 Edit.nil))))) (Tree.words (Edit.new (KidOf.e (List.getD (Edit.kids e) (Int.toNat x70_b) (KidOf.mk 0 Edit.nil))))) (Tree.kids (Edit.new (KidOf.e (List.getD (Edit.kids e) (Int.toNat x70_b) (KidOf.mk 0 Edit.nil)))))) (Edit.words (KidOf.e (List.getD (Edit.kids e) (Int.toNat x70_b) (KidOf.mk 0 Edit.nil)))) (Edit.kids (KidOf.e (List.getD (Edit.kids e) (Int.toNat x70_b) (KidOf.mk 0 Edit.nil)))) (Edit.list (KidOf.e (List.getD (Edit.kids e) (Int.toNat x70_b) (KidOf.mk 0 Edit.nil)))) (Edit.ops (KidOf.e (List.getD (Edit.kids e) (Int.toNat x70_b) (KidOf.mk 0 Edit.nil))))) (Tree.mk (Tree.kind (kidAt (Tree.mk (Tree.kind t) (Tree.words t) (Tree.kids t)) (KidOf.at_ (List.getD (Edit.kids e) (Int.toNat x70_b) (KidOf.mk 0 Edit.nil))))) (Tree.words (kidAt (Tree.mk (Tree.kind t) (Tree.words t) (Tree.kids t)) (KidOf.at_ (List.getD (Edit.kids e) (Int.toNat x70_b) (KidOf.mk 0 Edit.nil))))) (Tree.kids (kidAt (Tree.mk (Tree.kind t) (Tree.words t) (Tree.kids t)) (KidOf.at_ (List.getD (Edit.kids e) (Int.toNat x70_b) (KidOf.mk 0 Edit.nil)))))))) .unk])], [(.l 6 1, LC.mk (U := U) .u64 rl_6_1 0), (.l 6 2, LC.mk (U := U) .tree rl_6_2_c 0)]⟩ : LSt U)
noncomputable abbrev A113 (N : Nat) (p : List Nat) := awp cfg (know (know113 N)) (drawOk cfg (know (know113 N))) Try.f113.ntmps lv113 (cd Try.f113 p)
noncomputable abbrev S113 (N : Nat) (p : List Nat) := seqK cfg (know (know113 N)) (drawOk cfg (know (know113 N))) Try.f113.ntmps lv113 (cd Try.f113 p)
theorem vc113 (N : Nat) (e : Edit) (t : Tree) (Q : AExit → LSt U → Prop) (h : ((((((Tree.kind t) : Int) != 1) = true → (Q .ret (⟨[(4, .ptr (.loc 4) 0), (5, .c (.bool false))], [((.loc 4), [.int .i64 0, .nils, .nils])], []⟩ : LSt U))) ∧ ((((Tree.kind t) : Int) != 1) = false → (pre1071 ((Tree.words t), ())) ∧ (pre126 ((Tree.kids t), ())) ∧ ((LoopWp (A113 N [1, 1, 1, 0, 1, 0, 0]) (head113_0 e t 0 (Tree.words t)) (AExit.inBlock 0 (S113 N [1, 1, 1, 1] Q)))))))) :
    A113 N [] (⟨[(0, .agg [.int .i64 (Edit.kind e), .int .i64 (Tree.kind (Edit.old e)), .slice (U := U) .u64 (Tree.words (Edit.old e)) .unk, .slice (U := U) .tree (Tree.kids (Edit.old e)) .unk, .int .i64 (Tree.kind (Edit.new e)), .slice (U := U) .u64 (Tree.words (Edit.new e)) .unk, .slice (U := U) .tree (Tree.kids (Edit.new e)) .unk, .slice (U := U) .wedit (Edit.words e) .unk, .slice (U := U) .kid (Edit.kids e) .unk, .int .i64 (Edit.list e), .slice (U := U) .op (Edit.ops e) .unk]), (1, .agg [.int .i64 (Tree.kind t), .slice (U := U) .u64 (Tree.words t) .unk, .slice (U := U) .tree (Tree.kids t) .unk])], [], []⟩ : LSt U) Q :=
  Eq.mpr (by kernel_rfl) h
theorem vc113_l0 (N : Nat) (e : Edit) (t : Tree) (x28 : Int) (rl_6_1 : List Int) (N0 : LSt U → Prop) (Q : AExit → LSt U → Prop) (h : ∀ y_1, y_1 = (t) → ∀ y_2, y_2 = (List.getD (Edit.words e) (Int.toNat x28) (WEdit.mk 0 0 0 0)) → (((decide ((x28 : Int) < ((Edit.words e).length : Int))) = true → ((0 : Int) ≤ x28 ∧ x28 < ((Edit.words e).length : Int)) ∧ ((pre73 (y_1, (WEdit.at_ y_2), ())) ∧ ((pre127 (0, (wordAt y_1 (WEdit.at_ y_2)), (WEdit.mask y_2), ())) ∧ (((((mix 0 (wordAt y_1 (WEdit.at_ y_2)) (WEdit.mask y_2)) : Int) != (WEdit.old y_2)) = true → (Q .ret (⟨[(4, .ptr (.loc 4) 0), (5, .c (.bool false))], [((.loc 4), [.int .i64 0, .nils, .nils])], []⟩ : LSt U))) ∧ ((((mix 0 (wordAt y_1 (WEdit.at_ y_2)) (WEdit.mask y_2)) : Int) != (WEdit.old y_2)) = false → LoopWp (A113 N [1, 1, 1, 0, 1, 0, 0, 1, 1, 0, 0, 1, 1, 1, 0, 0, 0]) (head113_1 e t x28 rl_6_1) (AExit.inBlock 2 (S113 N [1, 1, 1, 0, 1, 0, 0, 1, 1, 0, 0, 1, 1, 1, 1] (AExit.inBlock 1 (S113 N [1, 1, 1, 0, 1, 0, 0, 1, 1, 1] (AExit.then N0 (AExit.inBlock 0 (S113 N [1, 1, 1, 1] Q)))))))))))) ∧ ((decide ((x28 : Int) < ((Edit.words e).length : Int))) = false → (LoopWp (A113 N [1, 1, 1, 1, 0, 1, 0, 0]) (head113_2 e t rl_6_1 0 (Tree.kids t)) (AExit.inBlock 4 (S113 N [1, 1, 1, 1, 1] Q)))))) :
    A113 N [1, 1, 1, 0, 1, 0, 0] (head113_0 e t x28 rl_6_1) (AExit.then N0 (AExit.inBlock 0 (S113 N [1, 1, 1, 1] Q))) :=
  Eq.mpr (by kernel_rfl) (h _ (reTree_eq _) _ rfl)
theorem vc113_l1 (N : Nat) (e : Edit) (t : Tree) (x28 : Int) (rl_6_1_a : List Int) (N1 : LSt U → Prop) (N0 : LSt U → Prop) (Q : AExit → LSt U → Prop) (h : (((decide (((rl_6_1_a.length : Int) : Int) ≤ (WEdit.at_ (List.getD (Edit.words e) (Int.toNat x28) (WEdit.mk 0 0 0 0))))) = true → ((rl_6_1_a.length + ([0]).length) * 8 ≤ 140737488355328) ∧ (N1 (head113_1 e t x28 (rl_6_1_a ++ ([0]))))) ∧ ((decide (((rl_6_1_a.length : Int) : Int) ≤ (WEdit.at_ (List.getD (Edit.words e) (Int.toNat x28) (WEdit.mk 0 0 0 0))))) = false → (pre127 ((wordAt (Tree.mk (Tree.kind t) (Tree.words t) (Tree.kids t)) (WEdit.at_ (List.getD (Edit.words e) (Int.toNat x28) (WEdit.mk 0 0 0 0)))), (WEdit.new (List.getD (Edit.words e) (Int.toNat x28) (WEdit.mk 0 0 0 0))), (WEdit.mask (List.getD (Edit.words e) (Int.toNat x28) (WEdit.mk 0 0 0 0))), ())) ∧ ((0 : Int) ≤ (WEdit.at_ (List.getD (Edit.words e) (Int.toNat x28) (WEdit.mk 0 0 0 0))) ∧ (WEdit.at_ (List.getD (Edit.words e) (Int.toNat x28) (WEdit.mk 0 0 0 0))) < (rl_6_1_a.length : Int)) ∧ ((0 : Nat) ≤ (Int.toNat (WEdit.at_ (List.getD (Edit.words e) (Int.toNat x28) (WEdit.mk 0 0 0 0))))) ∧ ((InR ((x28 : Int) + 1)) ∧ (N0 (head113_0 e t ((x28 : Int) + 1) (List.set rl_6_1_a (Int.toNat (WEdit.at_ (List.getD (Edit.words e) (Int.toNat x28) (WEdit.mk 0 0 0 0)))) (mix (wordAt (Tree.mk (Tree.kind t) (Tree.words t) (Tree.kids t)) (WEdit.at_ (List.getD (Edit.words e) (Int.toNat x28) (WEdit.mk 0 0 0 0)))) (WEdit.new (List.getD (Edit.words e) (Int.toNat x28) (WEdit.mk 0 0 0 0))) (WEdit.mask (List.getD (Edit.words e) (Int.toNat x28) (WEdit.mk 0 0 0 0))))))))))) :
    A113 N [1, 1, 1, 0, 1, 0, 0, 1, 1, 0, 0, 1, 1, 1, 0, 0, 0] (head113_1 e t x28 rl_6_1_a) (AExit.then N1 (AExit.inBlock 2 (S113 N [1, 1, 1, 0, 1, 0, 0, 1, 1, 0, 0, 1, 1, 1, 1] (AExit.inBlock 1 (S113 N [1, 1, 1, 0, 1, 0, 0, 1, 1, 1] (AExit.then N0 (AExit.inBlock 0 (S113 N [1, 1, 1, 1] Q)))))))) :=
  Eq.mpr (by kernel_rfl) h
theorem vc113_l2 (N : Nat) (e : Edit) (t : Tree) (rl_6_1 : List Int) (x70_b : Int) (rl_6_2_b : List Tree) (N2 : LSt U → Prop) (Q : AExit → LSt U → Prop) (h : ∀ y_1, y_1 = (t) → ∀ y_2, y_2 = (List.getD (Edit.kids e) (Int.toNat x70_b) (KidOf.mk 0 Edit.nil)) → ∀ y_3, y_3 = ((KidOf.e y_2)) → ∀ y_4, y_4 = ((kidAt y_1 (KidOf.at_ y_2))) → (((decide ((x70_b : Int) < ((Edit.kids e).length : Int))) = true → ((0 : Int) ≤ x70_b ∧ x70_b < ((Edit.kids e).length : Int)) ∧ ((pre74 (y_1, (KidOf.at_ y_2), ())) ∧ (pre82 (y_3, y_4, ())) ∧ (mu82 (y_3, y_4, ()) < N) ∧ ((((!((doE false y_3 y_4).isSome)) = true → (Q .ret (⟨[(4, .ptr (.loc 4) 0), (5, .c (.bool false))], [((.loc 4), [.int .i64 0, .nils, .nils])], []⟩ : LSt U))) ∧ ((!((doE false y_3 y_4).isSome)) = false → LoopWp (A113 N [1, 1, 1, 1, 0, 1, 0, 0, 1, 1, 0, 0, 1, 1, 1, 0, 0, 0]) (head113_3 e t rl_6_1 x70_b rl_6_2_b) (AExit.inBlock 6 (S113 N [1, 1, 1, 1, 0, 1, 0, 0, 1, 1, 0, 0, 1, 1, 1, 1] (AExit.inBlock 5 (S113 N [1, 1, 1, 1, 0, 1, 0, 0, 1, 1, 1] (AExit.then N2 (AExit.inBlock 4 (S113 N [1, 1, 1, 1, 1] Q)))))))))))) ∧ ((decide ((x70_b : Int) < ((Edit.kids e).length : Int))) = false → (Q .ret (⟨[(4, .ptr (.loc 4) 0), (5, .c (.bool true))], [((.loc 4), [.int .i64 1, .slice (U := U) .u64 rl_6_1 (.own (.l 4 1)), .slice (U := U) .tree rl_6_2_b (.own (.l 4 2))])], []⟩ : LSt U))))) :
    A113 N [1, 1, 1, 1, 0, 1, 0, 0] (head113_2 e t rl_6_1 x70_b rl_6_2_b) (AExit.then N2 (AExit.inBlock 4 (S113 N [1, 1, 1, 1, 1] Q))) :=
  Eq.mpr (by kernel_rfl) (h _ (reTree_eq _) _ rfl _ (reEdit_eq _) _ (reTree_eq _))
theorem vc113_l3 (N : Nat) (e : Edit) (t : Tree) (rl_6_1 : List Int) (x70_b : Int) (rl_6_2_c : List Tree) (N3 : LSt U → Prop) (N2 : LSt U → Prop) (Q : AExit → LSt U → Prop) (h : ∀ y_1, y_1 = (t) → ∀ y_2, y_2 = (List.getD (Edit.kids e) (Int.toNat x70_b) (KidOf.mk 0 Edit.nil)) → ∀ y_3, y_3 = ((KidOf.e y_2)) → ∀ y_4, y_4 = ((kidAt y_1 (KidOf.at_ y_2))) → ∀ y_5, y_5 = ((oneT y_3 y_4)) → (((decide (((rl_6_2_c.length : Int) : Int) ≤ (KidOf.at_ y_2))) = true → ((rl_6_2_c.length + ([(Tree.mk 0 ([]) ([]))]).length) * 56 ≤ 140737488355328) ∧ (N3 (head113_3 e t rl_6_1 x70_b (rl_6_2_c ++ ([(Tree.mk 0 ([]) ([]))]))))) ∧ ((decide (((rl_6_2_c.length : Int) : Int) ≤ (KidOf.at_ y_2))) = false → ((0 : Int) ≤ (KidOf.at_ y_2) ∧ (KidOf.at_ y_2) < (rl_6_2_c.length : Int)) ∧ ((0 : Nat) ≤ (Int.toNat (KidOf.at_ y_2))) ∧ ((InR ((x70_b : Int) + 1)) ∧ (N2 (head113_2 e t rl_6_1 ((x70_b : Int) + 1) (List.set rl_6_2_c (Int.toNat (KidOf.at_ y_2)) y_5))))))) :
    A113 N [1, 1, 1, 1, 0, 1, 0, 0, 1, 1, 0, 0, 1, 1, 1, 0, 0, 0] (head113_3 e t rl_6_1 x70_b rl_6_2_c) (AExit.then N3 (AExit.inBlock 6 (S113 N [1, 1, 1, 1, 0, 1, 0, 0, 1, 1, 0, 0, 1, 1, 1, 1] (AExit.inBlock 5 (S113 N [1, 1, 1, 1, 0, 1, 0, 0, 1, 1, 1] (AExit.then N2 (AExit.inBlock 4 (S113 N [1, 1, 1, 1, 1] Q)))))))) :=
  Eq.mpr (by kernel_rfl) (h _ (reTree_eq _) _ rfl _ (reEdit_eq _) _ (reTree_eq _) _ (reTree_eq _))
def Body113 (N : Nat) (e : Edit) (t : Tree)  : Prop := awp cfg (know (know113 N)) (drawOk cfg (know (know113 N))) Try.f113.ntmps lv113 (cd Try.f113 []) (entry (args113.can (e, t, ())) []) (EndsQ cfg Try.f113.ntmps Try.f113.results.toList (res113 (e, t, ())) [])
abbrev HB113 : Prop := ∀ (N : Nat) (e : Edit) (t : Tree) (_ : Unit), pre113 (e, t, ()) → mu113 (e, t, ()) < N + 1 → Body113 N e t

noncomputable def know114 (N : Nat) : List (FuncId × Fs U) := (82, fs args82 (fun a => [pre82 a, mu82 a < N]) res82) :: (113, fs args113 (fun a => [pre113 a, mu113 a < N]) res113) :: (114, fs args114 (fun a => [pre114 a, mu114 a < N]) res114) :: [(34, spec34), (73, spec73), (74, spec74), (96, spec96), (126, spec126), (127, spec127), (71, spec1071)]
def lv114 : Lives U := fun i => match i with
  | 0 => ([(2, []), (3, []), (4, [])], [((.loc 2), []), ((.loc 3), []), ((.loc 4), [])])
  | 1 => ([(2, []), (3, []), (4, []), (18, [])], [((.loc 2), []), ((.loc 3), []), ((.loc 4), [])])
  | 2 => ([(4, []), (5, [])], [((.loc 4), [])])
  | 3 => ([(2, []), (3, []), (4, []), (6, [])], [((.loc 2), []), ((.loc 3), []), ((.loc 4), []), ((.loc 6), [])])
  | 4 => ([(2, []), (4, []), (6, []), (7, [])], [((.loc 2), []), ((.loc 4), []), ((.loc 6), [])])
  | 5 => ([(4, []), (6, []), (7, []), (26, []), (27, []), (28, [])], [((.loc 4), []), ((.loc 6), [.any, .any, .own .tree])])
  | 6 => ([(4, []), (6, []), (7, []), (26, []), (27, []), (28, []), (29, [])], [((.loc 4), []), ((.loc 6), [])])
  | 7 => ([(4, []), (6, []), (7, []), (9, []), (26, []), (27, []), (28, [])], [((.loc 4), []), ((.loc 6), []), ((.loc 9), [])])
  | 8 => ([(4, []), (6, []), (7, []), (9, []), (10, []), (26, []), (27, []), (28, [])], [((.loc 4), []), ((.loc 6), []), ((.loc 9), [])])
  | 9 => ([(4, []), (6, []), (7, []), (9, []), (10, []), (26, []), (27, []), (28, []), (35, [])], [((.loc 4), []), ((.loc 6), []), ((.loc 9), [])])
  | 10 => ([(4, []), (6, []), (7, []), (9, []), (10, []), (26, []), (27, []), (28, []), (35, []), (36, [])], [((.loc 4), []), ((.loc 6), []), ((.loc 9), [])])
  | 11 => ([(4, []), (6, []), (7, []), (26, []), (27, []), (28, []), (97, [])], [((.loc 4), []), ((.loc 6), [])])
  | 12 => ([(4, []), (6, []), (7, []), (9, []), (10, []), (26, []), (27, []), (28, []), (35, []), (44, [])], [((.loc 4), []), ((.loc 6), []), ((.loc 9), [])])
  | 13 => ([(4, []), (6, []), (7, []), (9, []), (10, []), (26, []), (27, []), (28, []), (49, [])], [((.loc 4), []), ((.loc 6), []), ((.loc 9), [])])
  | 14 => ([(4, []), (6, []), (7, []), (9, []), (10, []), (26, []), (27, []), (28, []), (49, [])], [((.loc 4), []), ((.loc 6), []), ((.loc 9), [])])
  | 15 => ([(4, []), (6, []), (7, []), (9, []), (10, []), (26, []), (27, []), (28, []), (49, [])], [((.loc 4), []), ((.loc 6), []), ((.loc 9), [])])
  | 16 => ([(4, []), (6, []), (7, []), (9, []), (10, []), (26, []), (27, []), (28, []), (54, [])], [((.loc 4), []), ((.loc 6), []), ((.loc 9), [])])
  | 17 => ([(4, []), (5, [])], [((.loc 4), [])])
  | 18 => ([(4, []), (6, []), (7, []), (9, []), (10, []), (26, []), (27, []), (28, [])], [((.loc 4), []), ((.loc 6), []), ((.loc 9), [])])
  | 19 => ([(4, []), (6, []), (7, []), (9, []), (11, []), (26, []), (27, []), (28, [])], [((.loc 4), []), ((.loc 6), []), ((.loc 9), [])])
  | 20 => ([(4, []), (6, []), (7, []), (12, []), (13, []), (26, []), (27, []), (28, [])], [((.loc 4), []), ((.loc 6), []), ((.loc 12), [])])
  | 21 => ([(4, []), (6, []), (7, []), (12, []), (26, []), (27, []), (28, []), (72, [])], [((.loc 4), []), ((.loc 6), []), ((.loc 12), [])])
  | 22 => ([(4, []), (5, [])], [((.loc 4), [])])
  | 23 => ([(4, []), (6, []), (7, []), (26, []), (27, []), (28, []), (97, [])], [((.loc 4), []), ((.loc 6), [])])
  | 24 => ([(4, []), (6, []), (7, []), (9, []), (11, []), (26, []), (27, []), (28, []), (80, [])], [((.loc 4), []), ((.loc 6), []), ((.loc 9), [])])
  | 25 => ([(4, []), (6, []), (7, []), (26, []), (27, []), (28, []), (97, [])], [((.loc 4), []), ((.loc 6), [])])
  | 26 => ([(4, []), (6, []), (7, []), (9, []), (11, []), (26, []), (27, []), (28, []), (89, [])], [((.loc 4), []), ((.loc 6), []), ((.loc 9), [])])
  | 27 => ([(4, []), (6, []), (7, []), (26, []), (27, []), (28, []), (97, [])], [((.loc 4), []), ((.loc 6), [])])
  | 28 => ([(4, []), (5, [])], [((.loc 4), [])])
  | 29 => ([(4, []), (6, []), (7, []), (26, []), (27, []), (28, [])], [((.loc 4), []), ((.loc 6), [.any, .any, .own .tree])])
  | 30 => ([(4, []), (5, [])], [((.loc 4), [])])
  | _ => ([], [])
noncomputable def head114_0 (e : Edit) (t : Tree) (x28 : Int) (x7 : List Tree) (ml6_2 : List Tree) : LSt U := (⟨[(4, .ptr (.loc 4) 0), (6, .ptr (.loc 6) 0), (7, .c (.slice (U := U) .tree x7 .unk)), (26, .c (.slice (U := U) .op (Edit.ops e) .unk)), (27, .c (.int .i64 ((Edit.ops e).length : Int))), (28, .c (.int .i64 x28))], [((.loc 4), [.int .i64 0, .nils, .nils]), ((.loc 6), [.int .i64 (Tree.kind t), .nils, .slice (U := U) .tree ml6_2 (.own (.l 6 2))])], []⟩ : LSt U)
noncomputable def head114_1 (e : Edit) (t : Tree) (x28 : Int) (x7_a : List Tree) (ml6_2_a : List Tree) (v97_a : V U) : LSt U := (⟨[(4, .ptr (.loc 4) 0), (6, .ptr (.loc 6) 0), (7, .c (.slice (U := U) .tree x7_a .unk)), (26, .c (.slice (U := U) .op (Edit.ops e) .unk)), (27, .c (.int .i64 ((Edit.ops e).length : Int))), (28, .c (.int .i64 x28)), (97, v97_a)], [((.loc 4), [.int .i64 0, .nils, .nils]), ((.loc 6), [.int .i64 (Tree.kind t), .nils, .slice (U := U) .tree ml6_2_a (.own (.l 6 2))])], []⟩ : LSt U)
noncomputable def head114_2 (e : Edit) (t : Tree) (x28 : Int) (x7 : List Tree) (ml6_2 : List Tree) (x10_b : Int) (v49_b : V U) : LSt U := (⟨[(4, .ptr (.loc 4) 0), (6, .ptr (.loc 6) 0), (7, .c (.slice (U := U) .tree x7 .unk)), (9, .ptr (.loc 9) 0), (10, .c (.int .i64 x10_b)), (26, .c (.slice (U := U) .op (Edit.ops e) .unk)), (27, .c (.int .i64 ((Edit.ops e).length : Int))), (28, .c (.int .i64 x28)), (49, v49_b)], [((.loc 4), [.int .i64 0, .nils, .nils]), ((.loc 6), [.int .i64 (Tree.kind t), .nils, .slice (U := U) .tree ml6_2 (.own (.l 6 2))]), ((.loc 9), [.int .i64 (OpOf.kind (List.getD (Edit.ops e) (Int.toNat x28) Op.nil)), .int .i64 (OpOf.n (List.getD (Edit.ops e) (Int.toNat x28) Op.nil)), .slice (U := U) .tree (OpOf.l (List.getD (Edit.ops e) (Int.toNat x28) Op.nil)) .unk, .int .i64 (Edit.kind (OpOf.e (List.getD (Edit.ops e) (Int.toNat x28) Op.nil))), .int .i64 (Tree.kind (Edit.old (OpOf.e (List.getD (Edit.ops e) (Int.toNat x28) Op.nil)))), .slice (U := U) .u64 (Tree.words (Edit.old (OpOf.e (List.getD (Edit.ops e) (Int.toNat x28) Op.nil)))) .unk, .slice (U := U) .tree (Tree.kids (Edit.old (OpOf.e (List.getD (Edit.ops e) (Int.toNat x28) Op.nil)))) .unk, .int .i64 (Tree.kind (Edit.new (OpOf.e (List.getD (Edit.ops e) (Int.toNat x28) Op.nil)))), .slice (U := U) .u64 (Tree.words (Edit.new (OpOf.e (List.getD (Edit.ops e) (Int.toNat x28) Op.nil)))) .unk, .slice (U := U) .tree (Tree.kids (Edit.new (OpOf.e (List.getD (Edit.ops e) (Int.toNat x28) Op.nil)))) .unk, .slice (U := U) .wedit (Edit.words (OpOf.e (List.getD (Edit.ops e) (Int.toNat x28) Op.nil))) .unk, .slice (U := U) .kid (Edit.kids (OpOf.e (List.getD (Edit.ops e) (Int.toNat x28) Op.nil))) .unk, .int .i64 (Edit.list (OpOf.e (List.getD (Edit.ops e) (Int.toNat x28) Op.nil))), .slice (U := U) .op (Edit.ops (OpOf.e (List.getD (Edit.ops e) (Int.toNat x28) Op.nil))) .unk])], []⟩ : LSt U)
noncomputable abbrev A114 (N : Nat) (p : List Nat) := awp cfg (know (know114 N)) (drawOk cfg (know (know114 N))) Try.f114.ntmps lv114 (cd Try.f114 p)
noncomputable abbrev S114 (N : Nat) (p : List Nat) := seqK cfg (know (know114 N)) (drawOk cfg (know (know114 N))) Try.f114.ntmps lv114 (cd Try.f114 p)
theorem vc114 (N : Nat) (e : Edit) (t : Tree) (Q : AExit → LSt U → Prop) (h : ((((((Tree.kind t) : Int) != (Edit.list e)) = true → (Q .ret (⟨[(4, .ptr (.loc 4) 0), (5, .c (.bool false))], [((.loc 4), [.int .i64 0, .nils, .nils])], []⟩ : LSt U))) ∧ ((((Tree.kind t) : Int) != (Edit.list e)) = false → (((LoopWp (A114 N [1, 1, 1, 1, 0, 1, 0, 0]) (head114_0 e t 0 (Tree.kids t) ([])) (AExit.inBlock 0 (S114 N [1, 1, 1, 1, 1] Q))))))))) :
    A114 N [] (⟨[(0, .agg [.int .i64 (Edit.kind e), .int .i64 (Tree.kind (Edit.old e)), .slice (U := U) .u64 (Tree.words (Edit.old e)) .unk, .slice (U := U) .tree (Tree.kids (Edit.old e)) .unk, .int .i64 (Tree.kind (Edit.new e)), .slice (U := U) .u64 (Tree.words (Edit.new e)) .unk, .slice (U := U) .tree (Tree.kids (Edit.new e)) .unk, .slice (U := U) .wedit (Edit.words e) .unk, .slice (U := U) .kid (Edit.kids e) .unk, .int .i64 (Edit.list e), .slice (U := U) .op (Edit.ops e) .unk]), (1, .agg [.int .i64 (Tree.kind t), .slice (U := U) .u64 (Tree.words t) .unk, .slice (U := U) .tree (Tree.kids t) .unk])], [], []⟩ : LSt U) Q :=
  Eq.mpr (by kernel_rfl) h
theorem vc114_l0 (N : Nat) (e : Edit) (t : Tree) (x28 : Int) (x7 : List Tree) (ml6_2 : List Tree) (N0 : LSt U → Prop) (Q : AExit → LSt U → Prop) (h : ∀ y_1, y_1 = (List.getD (Edit.ops e) (Int.toNat x28) Op.nil) → (((decide ((x28 : Int) < ((Edit.ops e).length : Int))) = true → ((0 : Int) ≤ x28 ∧ x28 < ((Edit.ops e).length : Int)) ∧ ((((((((OpOf.kind y_1) : Int) == 2) = true → ((ml6_2.length + (OpOf.l y_1).length) * 56 ≤ 140737488355328) ∧ (A114 N [1, 1, 1, 1, 0, 1, 0, 0, 1, 1, 1] (head114_1 e t x28 x7 (ml6_2 ++ (OpOf.l y_1)) .junk) (AExit.then N0 (AExit.inBlock 0 (S114 N [1, 1, 1, 1, 1] Q))))) ∧ ((((OpOf.kind y_1) : Int) == 2) = false → (((((OpOf.kind y_1) : Int) == 1) = true → (A114 N [1, 1, 1, 1, 0, 1, 0, 0, 1, 1, 0, 0, 1, 1, 1] (head114_2 e t x28 x7 ml6_2 ((OpOf.l y_1).length : Int) .junk) (AExit.inBlock 1 (S114 N [1, 1, 1, 1, 0, 1, 0, 0, 1, 1, 1] (AExit.then N0 (AExit.inBlock 0 (S114 N [1, 1, 1, 1, 1] Q))))))) ∧ ((((OpOf.kind y_1) : Int) == 1) = false → (((((OpOf.kind y_1) : Int) == 3) = true → (A114 N [1, 1, 1, 1, 0, 1, 0, 0, 1, 1, 0, 0, 1, 1, 1] (head114_2 e t x28 x7 ml6_2 1 (.c (.bool (((OpOf.kind y_1) : Int) == 3)))) (AExit.inBlock 1 (S114 N [1, 1, 1, 1, 0, 1, 0, 0, 1, 1, 1] (AExit.then N0 (AExit.inBlock 0 (S114 N [1, 1, 1, 1, 1] Q))))))) ∧ ((((OpOf.kind y_1) : Int) == 3) = false → A114 N [1, 1, 1, 1, 0, 1, 0, 0, 1, 1, 0, 0, 1, 1, 1] (head114_2 e t x28 x7 ml6_2 (OpOf.n y_1) (.c (.bool (((OpOf.kind y_1) : Int) == 3)))) (AExit.inBlock 1 (S114 N [1, 1, 1, 1, 0, 1, 0, 0, 1, 1, 1] (AExit.then N0 (AExit.inBlock 0 (S114 N [1, 1, 1, 1, 1] Q))))))))))))))) ∧ ((decide ((x28 : Int) < ((Edit.ops e).length : Int))) = false → (Q .ret (⟨[(4, .ptr (.loc 4) 0), (5, .c (.bool (((x7.length : Int) : Int) == 0)))], [((.loc 4), [.int .i64 (Tree.kind t), .nils, .slice (U := U) .tree ml6_2 (.own (.l 4 2))])], []⟩ : LSt U))))) :
    A114 N [1, 1, 1, 1, 0, 1, 0, 0] (head114_0 e t x28 x7 ml6_2) (AExit.then N0 (AExit.inBlock 0 (S114 N [1, 1, 1, 1, 1] Q))) :=
  Eq.mpr (by kernel_rfl) (h _ rfl)
theorem vc114_c1 (N : Nat) (e : Edit) (t : Tree) (x28 : Int) (x7_a : List Tree) (ml6_2_a : List Tree) (v97_a : V U) (N0 : LSt U → Prop) (Q : AExit → LSt U → Prop) (h : (InR ((x28 : Int) + 1)) ∧ (N0 (head114_0 e t ((x28 : Int) + 1) x7_a ml6_2_a))) :
    A114 N [1, 1, 1, 1, 0, 1, 0, 0, 1, 1, 1] (head114_1 e t x28 x7_a ml6_2_a v97_a) (AExit.then N0 (AExit.inBlock 0 (S114 N [1, 1, 1, 1, 1] Q))) :=
  Eq.mpr (by kernel_rfl) h
theorem vc114_c2 (N : Nat) (e : Edit) (t : Tree) (x28 : Int) (x7 : List Tree) (ml6_2 : List Tree) (x10_b : Int) (v49_b : V U) (N0 : LSt U → Prop) (Q : AExit → LSt U → Prop) (h : ∀ y_1, y_1 = (List.getD (Edit.ops e) (Int.toNat x28) Op.nil) → ∀ y_2, y_2 = (List.getD (List.take (Int.toNat x10_b) x7) (Int.toNat 0) Tree.nil) → ∀ y_3, y_3 = (y_2) → ∀ y_4, y_4 = ((OpOf.e y_1)) → ∀ y_5, y_5 = (eqX (normsT (OpOf.l y_1)) (normsT (List.take (Int.toNat x10_b) x7))) → ∀ y_6, y_6 = ((oneT y_4 y_3)) → (((decide (((x7.length : Int) : Int) < x10_b)) = true → (Q .ret (⟨[(4, .ptr (.loc 4) 0), (5, .c (.bool false))], [((.loc 4), [.int .i64 0, .nils, .nils])], []⟩ : LSt U))) ∧ ((decide (((x7.length : Int) : Int) < x10_b)) = false → (((0 : Int) ≤ x10_b ∧ x10_b ≤ (x7.length : Int)) ∧ ((0 : Int) ≤ x10_b ∧ x10_b ≤ (x7.length : Int)) ∧ ((((((OpOf.kind y_1) : Int) == 0) = true → ((ml6_2.length + (List.take (Int.toNat x10_b) x7).length) * 56 ≤ 140737488355328) ∧ (A114 N [1, 1, 1, 1, 0, 1, 0, 0, 1, 1, 1] (head114_1 e t x28 (List.drop (Int.toNat x10_b) x7) (ml6_2 ++ (List.take (Int.toNat x10_b) x7)) .junk) (AExit.then N0 (AExit.inBlock 0 (S114 N [1, 1, 1, 1, 1] Q))))) ∧ ((((OpOf.kind y_1) : Int) == 0) = false → (((((OpOf.kind y_1) : Int) == 1) = true → (pre96 ((OpOf.l y_1), (List.take (Int.toNat x10_b) x7), (), ())) ∧ (((!y_5) = true → (Q .ret (⟨[(4, .ptr (.loc 4) 0), (5, .c (.bool false))], [((.loc 4), [.int .i64 0, .nils, .nils])], []⟩ : LSt U))) ∧ ((!y_5) = false → A114 N [1, 1, 1, 1, 0, 1, 0, 0, 1, 1, 1] (head114_1 e t x28 (List.drop (Int.toNat x10_b) x7) ml6_2 (.c (.bool (!y_5)))) (AExit.then N0 (AExit.inBlock 0 (S114 N [1, 1, 1, 1, 1] Q)))))) ∧ ((((OpOf.kind y_1) : Int) == 1) = false → ((0 : Int) ≤ 0 ∧ 0 < ((List.take (Int.toNat x10_b) x7).length : Int)) ∧ (pre82 (y_4, y_3, ())) ∧ (mu82 (y_4, y_3, ()) < N) ∧ ((((!((doE false y_4 y_3).isSome)) = true → (Q .ret (⟨[(4, .ptr (.loc 4) 0), (5, .c (.bool false))], [((.loc 4), [.int .i64 0, .nils, .nils])], []⟩ : LSt U))) ∧ ((!((doE false y_4 y_3).isSome)) = false → ((ml6_2.length + ([y_6]).length) * 56 ≤ 140737488355328) ∧ (A114 N [1, 1, 1, 1, 0, 1, 0, 0, 1, 1, 1] (head114_1 e t x28 (List.drop (Int.toNat x10_b) x7) (ml6_2 ++ ([y_6])) .junk) (AExit.then N0 (AExit.inBlock 0 (S114 N [1, 1, 1, 1, 1] Q)))))))))))))))) :
    A114 N [1, 1, 1, 1, 0, 1, 0, 0, 1, 1, 0, 0, 1, 1, 1] (head114_2 e t x28 x7 ml6_2 x10_b v49_b) (AExit.inBlock 1 (S114 N [1, 1, 1, 1, 0, 1, 0, 0, 1, 1, 1] (AExit.then N0 (AExit.inBlock 0 (S114 N [1, 1, 1, 1, 1] Q))))) :=
  Eq.mpr (by kernel_rfl) (h _ rfl _ rfl _ (reTree_eq _) _ (reEdit_eq _) _ rfl _ (reTree_eq _))
def Body114 (N : Nat) (e : Edit) (t : Tree)  : Prop := awp cfg (know (know114 N)) (drawOk cfg (know (know114 N))) Try.f114.ntmps lv114 (cd Try.f114 []) (entry (args114.can (e, t, ())) []) (EndsQ cfg Try.f114.ntmps Try.f114.results.toList (res114 (e, t, ())) [])
abbrev HB114 : Prop := ∀ (N : Nat) (e : Edit) (t : Tree) (_ : Unit), pre114 (e, t, ()) → mu114 (e, t, ()) < N + 1 → Body114 N e t

theorem make82_ (c34 : Contract Try.prog cfg 34 spec34) (c73 : Contract Try.prog cfg 73 spec73) (c74 : Contract Try.prog cfg 74 spec74) (c96 : Contract Try.prog cfg 96 spec96) (c126 : Contract Try.prog cfg 126 spec126) (c127 : Contract Try.prog cfg 127 spec127) (c1071 : Contract Try.prog cfg 71 spec1071) (b82 : HB82) (b113 : HB113) (b114 : HB114) :
    Contract Try.prog cfg 82 spec82 ∧ Contract Try.prog cfg 113 spec113 ∧ Contract Try.prog cfg 114 spec114 := by
  have h82 : ∃ fn, Try.prog.funcs[(82 : FuncId)]? = some fn ∧ fn.body.isSome = true ∧ (fn.name == "runtime.NumGoroutine") = false := ⟨Try.f82, Try.func82, rfl, rfl⟩
  have h113 : ∃ fn, Try.prog.funcs[(113 : FuncId)]? = some fn ∧ fn.body.isSome = true ∧ (fn.name == "runtime.NumGoroutine") = false := ⟨Try.f113, Try.func113, rfl, rfl⟩
  have h114 : ∃ fn, Try.prog.funcs[(114 : FuncId)]? = some fn ∧ fn.body.isSome = true ∧ (fn.name == "runtime.NumGoroutine") = false := ⟨Try.f114, Try.func114, rfl, rfl⟩
  have key : ∀ N, Contract Try.prog cfg 82 (fs args82 (fun a => [pre82 a, mu82 a < N]) res82) ∧ Contract Try.prog cfg 113 (fs args113 (fun a => [pre113 a, mu113 a < N]) res113) ∧ Contract Try.prog cfg 114 (fs args114 (fun a => [pre114 a, mu114 a < N]) res114) := by
    intro N
    induction N with
    | zero => exact ⟨fs_zero h82, fs_zero h113, fs_zero h114⟩
    | succ N ih =>
      have kn := know_ok (l := know82 N) ⟨ih.1, ih.2.1, ih.2.2, c34, c73, c74, c96, c126, c127, c1071, trivial⟩
      exact ⟨contract_fs (Γ := know (know82 N)) cfgOk rfl kn lv82 Try.func82 rfl rfl (fun a => by show 2 ≤ _; decide) (fun ⟨e, t, _⟩ h => b82 N e t () h.1 h.2.1),
        contract_fs (Γ := know (know82 N)) cfgOk rfl kn lv113 Try.func113 rfl rfl (fun a => by show 2 ≤ _; decide) (fun ⟨e, t, _⟩ h => b113 N e t () h.1 h.2.1),
        contract_fs (Γ := know (know82 N)) cfgOk rfl kn lv114 Try.func114 rfl rfl (fun a => by show 2 ≤ _; decide) (fun ⟨e, t, _⟩ h => b114 N e t () h.1 h.2.1)⟩
  exact ⟨fs_less h82 fun N => (key N).1, fs_less h113 fun N => (key N).2.1, fs_less h114 fun N => (key N).2.2⟩
end Go.AM.Ytlahjnelghpmeaa
