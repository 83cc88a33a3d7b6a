import Derived.Test.YtlahjnelghpmeaaB20c
import Derived.Test.YtlahjnelghpmeaaAmZ
import Derived.Test.YtlahjnelghpmeaaD20
import Derived.Test.YtlahjnelghpmeaaRB07
import Derived.Test.YtlahjnelghpmeaaB07
set_option linter.unusedSimpArgs false
set_option linter.unusedVariables false
namespace Go.AM
noncomputable def eqX {α : Type} (a b : α) : Bool := @decide (a = b) (Classical.propDecidable _)
theorem eqX_iff {α : Type} {a b : α} : eqX a b = true ↔ a = b := by unfold eqX; exact @decide_eq_true_iff _ (Classical.propDecidable _)
end Go.AM

namespace Go.AM.Ytlahjnelghpmeaa
open Go.AM Go.Proofs
theorem opLen_eq (o : Op) : opLen o = if o.kind = 3 then 1 else o.n + o.l.length := rfl
theorem massK_drop (n : Nat) : ∀ (l : List Tree), massK (l.drop n) ≤ massK l := by
  induction n with
  | zero => intro l; simp
  | succ n ih =>
    intro l
    cases l with
    | nil => simp
    | cons t r => simp only [List.drop_succ_cons, massK]; have := ih r; omega
theorem massK_take (n : Nat) : ∀ (l : List Tree), massK (l.take n) ≤ massK l := by
  induction n with
  | zero => intro l; simp [massK]
  | succ n ih =>
    intro l
    cases l with
    | nil => simp
    | cons t r => simp only [List.take_succ_cons, massK]; have := ih r; omega
end Go.AM.Ytlahjnelghpmeaa

namespace Go.AM.Ytlahjnelghpmeaa
open Go.AM Go.Proofs
theorem eqX_no {α : Type} {a b : α} (h : ¬ a = b) : eqX a b = false := by rw [← Bool.not_eq_true, eqX_iff]; exact h
end Go.AM.Ytlahjnelghpmeaa

namespace Go.AM
def idleE (list : Int) (e : Edit) : Bool := decide (e.kind = 0 ∨ (list = 9 ∧ e.kind = 2 ∧ e.words.length = 0 ∧ e.kids.length = 0))
def normsT (l : List Tree) : List Tree := l.map normT
end Go.AM

namespace Go.AM
def setPad {α : Type} (z : α) (l : List α) (i : Nat) (x : α) : List α := (l ++ List.replicate (i + 1 - l.length) z).set i x
def wsD (tw : List Int) : List WEdit → List Int → Option (List Int)
  | [], out => some out
  | w :: r, out => if mix 0 (tw.getD w.at_.toNat 0) w.mask = w.old then wsD tw r (setPad 0 out w.at_.toNat (mix (tw.getD w.at_.toNat 0) w.new w.mask)) else none
noncomputable def goneD (l rest : List Tree) : Bool := decide (l.length ≤ rest.length) && eqX (normsT l) (normsT (rest.take l.length))
def endD (r : Option (List Tree × List Tree)) : Option (List Tree) := r.bind fun x => if x.2.length = 0 then some x.1 else none
def nrD (r : Bool) (t : Tree) : Tree := if r then normT t else t
mutual
noncomputable def doE (r : Bool) : Edit → Tree → Option Tree
  | .mk k o n w ks l os, t =>
    (if k = 0 then some t
    else if k = 1 then (if sameT (normT o) (normT t) = true then some n else none)
    else if k = 2 then (if t.kind = 1 then (wsD t.words w t.words).bind fun a => (doKs r t.kids ks t.kids).map fun b => .mk 1 a b else none)
    else if k = 3 then (if t.kind = l then (endD (doOs r os t.kids [])).map fun b => .mk l [] b else none)
    else none).map (nrD r)
noncomputable def doKs (r : Bool) (tk : List Tree) : List (KidOf Edit) → List Tree → Option (List Tree)
  | [], out => some out
  | k :: s, out => (doKid r tk k).bind fun u => doKs r tk s (setPad Tree.nil out k.at_.toNat u)
noncomputable def doKid (r : Bool) (tk : List Tree) : KidOf Edit → Option Tree
  | ⟨a, e⟩ => doE r e (tk.getD a.toNat Tree.nil)
noncomputable def doOs (r : Bool) : List (OpOf Edit) → List Tree → List Tree → Option (List Tree × List Tree)
  | [], rest, out => some (out, rest)
  | o :: s, rest, out => (doOp r o rest out).bind fun x => doOs r s x.2 x.1
noncomputable def doOp (r : Bool) : OpOf Edit → List Tree → List Tree → Option (List Tree × List Tree)
  | ⟨k, n, l, e⟩, rest, out =>
    if k = 0 then (if n.toNat ≤ rest.length then some (out ++ rest.take n.toNat, rest.drop n.toNat) else none)
    else if k = 1 then (if goneD l rest = true then some (out, rest.drop l.length) else none)
    else if k = 2 then some (out ++ l, rest)
    else if rest.length = 0 then none else (doE r e (rest.getD 0 Tree.nil)).map fun u => (out ++ [u], rest.drop 1)
end
theorem doE_at (r : Bool) (e : Edit) (t : Tree) : doE r e t = (if e.kind = 0 then some t
    else if e.kind = 1 then (if sameT (normT e.old) (normT t) = true then some e.new else none)
    else if e.kind = 2 then (if t.kind = 1 then (wsD t.words e.words t.words).bind fun a => (doKs r t.kids e.kids t.kids).map fun b => .mk 1 a b else none)
    else if e.kind = 3 then (if t.kind = e.list then (endD (doOs r e.ops t.kids [])).map fun b => .mk e.list [] b else none)
    else none).map (nrD r) := by cases e; rfl
noncomputable def rawE (r : Bool) (e : Edit) (t : Tree) : Option Tree :=
  if e.kind = 0 then some t
  else if e.kind = 1 then (if sameT (normT e.old) (normT t) = true then some e.new else none)
  else if e.kind = 2 then (if t.kind = 1 then (wsD t.words e.words t.words).bind fun a => (doKs r t.kids e.kids t.kids).map fun b => .mk 1 a b else none)
  else if e.kind = 3 then (if t.kind = e.list then (endD (doOs r e.ops t.kids [])).map fun b => .mk e.list [] b else none)
  else none
theorem doE_raw (r : Bool) (e : Edit) (t : Tree) : doE r e t = (rawE r e t).map (nrD r) := doE_at r e t
theorem doKid_at (r : Bool) (tk : List Tree) (k : Kid) : doKid r tk k = doE r k.e (tk.getD k.at_.toNat Tree.nil) := by cases k; rfl
theorem doOp_at (r : Bool) (o : Op) (rest out : List Tree) : doOp r o rest out = if o.kind = 0 then (if o.n.toNat ≤ rest.length then some (out ++ rest.take o.n.toNat, rest.drop o.n.toNat) else none)
    else if o.kind = 1 then (if goneD o.l rest = true then some (out, rest.drop o.l.length) else none)
    else if o.kind = 2 then some (out ++ o.l, rest)
    else if rest.length = 0 then none else (doE r o.e (rest.getD 0 Tree.nil)).map fun u => (out ++ [u], rest.drop 1) := by cases o; rfl
noncomputable def strD (r : Bool) (e : Edit) (t : Tree) : Option Tree :=
  if t.kind = 1 then (wsD t.words e.words t.words).bind fun a => (doKs r t.kids e.kids t.kids).map fun b => .mk 1 a b else none
noncomputable def lstD (r : Bool) (e : Edit) (t : Tree) : Option (List Tree × List Tree) := if t.kind = e.list then doOs r e.ops t.kids [] else none
def orNil (o : Option Tree) : Tree := o.getD Tree.nil
def lstT (e : Edit) (o : Option (List Tree × List Tree)) : Tree := match o with | some x => .mk e.list [] x.1 | none => Tree.nil
noncomputable def oneT (e : Edit) (t : Tree) : Tree :=
  if e.kind = 0 then t else if e.kind = 1 then e.new else if e.kind = 2 then orNil (strD false e t) else if e.kind = 3 then lstT e (lstD false e t) else Tree.nil
theorem nrD_false (o : Option Tree) : o.map (nrD false) = o := by cases o <;> rfl
theorem oneT_some {e : Edit} {t u : Tree} (h : doE false e t = some u) : oneT e t = u := by
  rw [doE_at, nrD_false] at h
  unfold oneT
  split
  · rename_i h0; rw [if_pos h0] at h; exact Option.some.inj h
  · rename_i h0; rw [if_neg h0] at h
    split
    · rename_i h1; rw [if_pos h1] at h
      split at h
      · exact Option.some.inj h
      · cases h
    · rename_i h1; rw [if_neg h1] at h
      split
      · rename_i h2; rw [if_pos h2] at h
        unfold orNil strD
        rw [h]; rfl
      · rename_i h2; rw [if_neg h2] at h
        split
        · rename_i h3; rw [if_pos h3] at h
          unfold lstT lstD
          split at h
          · rename_i h4; rw [if_pos h4]
            revert h
            cases doOs false e.ops t.kids [] with
            | none => intro h; cases h
            | some x =>
              intro h
              simp only [endD, Option.bind_some] at h
              split at h
              · exact Option.some.inj h
              · cases h
          · cases h
        · rename_i h3; rw [if_neg h3] at h; cases h
end Go.AM

namespace Go.AM.Ytlahjnelghpmeaa
open Go.AM Go.Proofs
theorem map_eq_getD {α β : Type} {f : α → β} (d : α) {a b : List α} (hl : a.length = b.length) (h : ∀ i : Nat, i < a.length → f (a.getD i d) = f (b.getD i d)) : a.map f = b.map f := by
  apply List.ext_getElem (by simpa using hl)
  intro i h1 h2
  have h1' : i < a.length := by simpa using h1
  have h2' : i < b.length := by simpa using h2
  have := h i h1'
  simpa [List.getD_eq_getElem?_getD, List.getElem?_eq_getElem h1', List.getElem?_eq_getElem h2'] using this
theorem getD_map_eq {α β : Type} {f : α → β} {d : α} {a b : List α} (h : a.map f = b.map f) (i : Nat) : f (a.getD i d) = f (b.getD i d) := by
  have e := congrArg (fun l => l[i]?.getD (f d)) h
  simp only [List.getElem?_map] at e
  rw [List.getD_eq_getElem?_getD, List.getD_eq_getElem?_getD]
  cases h1 : a[i]? <;> cases h2 : b[i]? <;> simp_all
end Go.AM.Ytlahjnelghpmeaa

namespace Go.AM
def widN (m : Nat) : Nat → Nat
  | 0 => 0
  | i + 1 => widN m i + if m / 2 ^ i % 2 = 1 then 255 * 2 ^ (8 * i) else 0
def widW : Nat → Nat → Nat
  | 0, _ => 0
  | k + 1, m => (if m % 2 = 1 then 255 else 0) + 256 * widW k (m / 2)
def pickW : Nat → Nat → Nat → Nat
  | 0, _, _ => 0
  | k + 1, a, m => (if m % 2 = 1 then a % 256 else 0) + 256 * pickW k (a / 256) (m / 2)
def mixW : Nat → Nat → Nat → Nat → Nat
  | 0, _, _, _ => 0
  | k + 1, a, b, m => (if m % 2 = 1 then b % 256 else a % 256) + 256 * mixW k (a / 256) (b / 256) (m / 2)
theorem and_split (x y u v : Nat) (hu : u < 256) (hv : v < 256) : (u + 256 * x) &&& (v + 256 * y) = (u &&& v) + 256 * (x &&& y) := by
  have h : u &&& v < 256 := Nat.and_lt_two_pow (n := 8) u hv
  apply Nat.eq_of_testBit_eq
  intro j
  rw [Nat.add_comm u, Nat.add_comm v, Nat.add_comm (u &&& v), Nat.testBit_and]
  rw [show (256 : Nat) = 2 ^ 8 from rfl, Nat.testBit_two_pow_mul_add _ hu, Nat.testBit_two_pow_mul_add _ hv, Nat.testBit_two_pow_mul_add _ h]
  split <;> rw [Nat.testBit_and]
theorem or_split (x y u v : Nat) (hu : u < 256) (hv : v < 256) : (u + 256 * x) ||| (v + 256 * y) = (u ||| v) + 256 * (x ||| y) := by
  have h : u ||| v < 256 := Nat.or_lt_two_pow (n := 8) hu hv
  apply Nat.eq_of_testBit_eq
  intro j
  rw [Nat.add_comm u, Nat.add_comm v, Nat.add_comm (u ||| v), Nat.testBit_or]
  rw [show (256 : Nat) = 2 ^ 8 from rfl, Nat.testBit_two_pow_mul_add _ hu, Nat.testBit_two_pow_mul_add _ hv, Nat.testBit_two_pow_mul_add _ h]
  split <;> rw [Nat.testBit_or]
theorem and_wide : ∀ (k a m : Nat), a &&& widW k m = pickW k a m
  | 0, a, m => by simp [widW, pickW]
  | k + 1, a, m => by
    have e : a = a % 256 + 256 * (a / 256) := by omega
    simp only [widW, pickW]
    rw [← and_wide k (a / 256) (m / 2)]
    have h : a &&& ((if m % 2 = 1 then 255 else 0) + 256 * widW k (m / 2)) = (a % 256 + 256 * (a / 256)) &&& ((if m % 2 = 1 then 255 else 0) + 256 * widW k (m / 2)) := by rw [← e]
    rw [h, and_split _ _ _ _ (by omega) (by split <;> omega)]
    congr 1
    split
    · have := Nat.and_two_pow_sub_one_eq_mod (a % 256) 8
      simp only [show (2 : Nat) ^ 8 - 1 = 255 from rfl, show (2 : Nat) ^ 8 = 256 from rfl, Nat.mod_mod] at this
      exact this
    · simp
theorem or_pick : ∀ (k a b m n : Nat), (∀ i < k, m / 2 ^ i % 2 + n / 2 ^ i % 2 = 1) → pickW k a n ||| pickW k b m = mixW k a b m
  | 0, a, b, m, n, _ => by simp [pickW, mixW]
  | k + 1, a, b, m, n, h => by
    simp only [pickW, mixW]
    have h0 := h 0 (by omega)
    simp only [Nat.pow_zero, Nat.div_one] at h0
    rw [or_split _ _ _ _ (by split <;> omega) (by split <;> omega), or_pick k (a / 256) (b / 256) (m / 2) (n / 2) (fun i hi => by
      have := h (i + 1) (by omega)
      rw [Nat.div_div_eq_div_mul, Nat.div_div_eq_div_mul]
      rw [Nat.pow_succ, Nat.mul_comm] at this
      exact this)]
    congr 1
    by_cases hm : m % 2 = 1
    · rw [if_pos hm, if_pos hm, if_neg (by omega)]; simp
    · rw [if_neg hm, if_neg hm, if_pos (by omega)]; simp
theorem widN_eq : ∀ m : Fin 256, widN m.1 8 = widW 8 m.1 := by decide +kernel
theorem widW_not : ∀ m : Fin 256, 2 ^ 64 - 1 - widW 8 m.1 = widW 8 (255 - m.1) := by decide +kernel
theorem bits_not : ∀ m : Fin 256, ∀ i : Fin 8, m.1 / 2 ^ i.1 % 2 + (255 - m.1) / 2 ^ i.1 % 2 = 1 := by decide +kernel
theorem widW_lt : ∀ m : Fin 256, widW 8 m.1 < 2 ^ 64 := by decide +kernel
theorem mix_bits (a b m : Nat) (hm : m < 256) : (a &&& (2 ^ 64 - 1 - widN m 8)) ||| (b &&& widN m 8) = mixW 8 a b m := by
  have h1 := widN_eq ⟨m, hm⟩
  have h2 := widW_not ⟨m, hm⟩
  simp only at h1 h2
  rw [h1, h2, and_wide, and_wide]
  exact or_pick 8 a b m (255 - m) (fun i hi => bits_not ⟨m, hm⟩ ⟨i, hi⟩)
def ofK : Nat → (Nat → Nat) → Nat
  | 0, _ => 0
  | k + 1, f => f 0 + 256 * ofK k (fun i => f (i + 1))
theorem ofK_congr : ∀ (k : Nat) {f g : Nat → Nat}, (∀ i, f i = g i) → ofK k f = ofK k g
  | 0, _, _, _ => rfl
  | k + 1, f, g, h => by simp only [ofK, h 0, ofK_congr k (fun i => h (i + 1))]
theorem mixW_of : ∀ (k a b m : Nat), mixW k a b m = ofK k (fun i => if m / 2 ^ i % 2 = 1 then b / 256 ^ i % 256 else a / 256 ^ i % 256)
  | 0, _, _, _ => rfl
  | k + 1, a, b, m => by
    simp only [mixW, ofK, Nat.pow_zero, Nat.div_one]
    rw [mixW_of k, ofK_congr k (g := fun i => if m / 2 ^ (i + 1) % 2 = 1 then b / 256 ^ (i + 1) % 256 else a / 256 ^ (i + 1) % 256) (fun i => ?_)]
    rw [Nat.div_div_eq_div_mul, Nat.div_div_eq_div_mul, Nat.div_div_eq_div_mul, Nat.pow_succ', Nat.pow_succ']
theorem mixW_mix (a b m : Nat) : ((mixW 8 a b m : Nat) : Int) = mix a b m := by
  have nm : ∀ i : Nat, named (m : Int) (i : Int) = decide (m / 2 ^ i % 2 = 1) := by
    intro i
    unfold named
    rw [decide_eq_decide, Int.toNat_natCast]
    have : ((m : Int) / 2 ^ i % 2 : Int) = ((m / 2 ^ i % 2 : Nat) : Int) := by rw [Int.natCast_emod, Int.natCast_ediv, Int.natCast_pow]; rfl
    rw [this]; omega
  have by_ : ∀ (x i : Nat), byteAt (x : Int) i = ((x / 256 ^ i % 256 : Nat) : Int) := by
    intro x i
    unfold byteAt
    rw [Int.natCast_emod, Int.natCast_ediv, Int.natCast_pow]
    rfl
  have mx : ∀ i : Nat, mixAt (a : Int) (b : Int) (m : Int) i = ((if m / 2 ^ i % 2 = 1 then b / 256 ^ i % 256 else a / 256 ^ i % 256 : Nat) : Int) := by
    intro i
    unfold mixAt
    rw [nm, by_, by_]
    by_cases h : m / 2 ^ i % 2 = 1
    · rw [decide_eq_true h, if_pos rfl, if_pos h]
    · rw [decide_eq_false h, if_neg Bool.false_ne_true, if_neg h]
  rw [mixW_of]
  generalize hf : (fun i => if m / 2 ^ i % 2 = 1 then b / 256 ^ i % 256 else a / 256 ^ i % 256) = f
  have hx : ∀ i, mixAt (a : Int) (b : Int) (m : Int) i = (f i : Int) := by intro i; rw [mx, ← hf]
  have e : ofK 8 f = f 0 + 256 * (f 1 + 256 * (f 2 + 256 * (f 3 + 256 * (f 4 + 256 * (f 5 + 256 * (f 6 + 256 * (f 7 + 256 * 0))))))) := rfl
  rw [e]
  simp only [mix, of8, hx]
  omega
def withinB (list : Int) (e : Edit) : Bool :=
  if (2 ≤ list ∧ list ≤ 7) ∨ e.kind = 0 then false else if list = 8 ∨ e.kind = 2 then true else decide (e.kind = 1 ∧ e.old.kind = 1 ∧ e.new.kind = 1)
end Go.AM

namespace Go.AM.Ytlahjnelghpmeaa
open Go.AM Go.Proofs
abbrev TrG20c (p : Prop) : Prop := p → p
noncomputable section
def args134 : ArgL (Int × Unit) := (.cons (aInt .u8) .nil)
def pre134 (a : Int × Unit) : Prop := 0 ≤ a.1 ∧ a.1 < 256
noncomputable def res134 (a : Int × Unit) : V U := .c (.int .u64 ((widN (a.1).toNat 8 : Nat) : Int))
noncomputable def spec134 : Fs U := fs args134 (fun a => [pre134 a]) res134
def args127 : ArgL (Int × Int × Int × Unit) := (.cons (aInt .u64) (.cons (aInt .u64) (.cons (aInt .u8) .nil)))
def pre127 (a : Int × Int × Int × Unit) : Prop := (0 ≤ a.1 ∧ a.1 < 18446744073709551616) ∧ (0 ≤ a.2.1 ∧ a.2.1 < 18446744073709551616) ∧ (0 ≤ a.2.2.1 ∧ a.2.2.1 < 256)
noncomputable def res127 (a : Int × Int × Int × Unit) : V U := .c (.int .u64 (mix a.1 a.2.1 a.2.2.1))
noncomputable def spec127 : Fs U := fs args127 (fun a => [pre127 a]) res127
def args119 : ArgL (Tree × Unit) := (.cons (aEl .tree) .nil)
def pre119 (a : Tree × Unit) : Prop := mass a.1 ≤ 1000000 ∧ rng a.1
noncomputable def res119 (a : Tree × Unit) : V U := .c (.bool (decide (Tree.kind a.1 ≠ 10) && rightT a.1 64))
noncomputable def spec119 : Fs U := fs args119 (fun a => [pre119 a]) res119
def args137 : ArgL (Int × Tree × Unit) := (.cons (aInt .i64) (.cons (aEl .tree) .nil))
def pre137 (a : Int × Tree × Unit) : Prop := mass a.2.1 ≤ 900000 ∧ rng a.2.1 ∧ isI a.1
noncomputable def res137 (a : Int × Tree × Unit) : V U := .c (.bool (rightT (Tree.mk a.1 [] [a.2.1]) 64))
noncomputable def spec137 : Fs U := fs args137 (fun a => [pre137 a]) res137
def args138 : ArgL (Int × Edit × Unit) := (.cons (aInt .i64) (.cons (aEl .edit) .nil))
def pre138 (a : Int × Edit × Unit) : Prop := True
noncomputable def res138 (a : Int × Edit × Unit) : V U := .c (.bool (withinB a.1 a.2.1))
noncomputable def spec138 : Fs U := fs args138 (fun a => [pre138 a]) res138
def args120 : ArgL (List WEdit × Unit) := (.cons (aSl .wedit) .nil)
def pre120 (a : List WEdit × Unit) : Prop := (a.1).length ≤ 1000000 ∧ ∀ x ∈ a.1, rngW x
noncomputable def res120 (a : List WEdit × Unit) : V U := .c (.bool (wordsOk (-1) a.1))
noncomputable def spec120 : Fs U := fs args120 (fun a => [pre120 a]) res120
noncomputable def know134 : List (FuncId × Fs U) := []
def lv134 : Lives U := fun i => match i with
  | 0 => ([(0, [])], [])
  | 1 => ([(0, []), (3, [])], [])
  | 2 => ([(0, []), (3, []), (5, [])], [])
  | 3 => ([(0, []), (3, []), (5, []), (6, [])], [])
  | 4 => ([(0, []), (3, []), (4, []), (5, [])], [])
  | 5 => ([(0, []), (3, []), (4, []), (5, []), (12, [])], [])
  | 6 => ([(0, []), (3, []), (5, [])], [])
  | 7 => ([(0, []), (3, []), (5, [])], [])
  | 8 => ([(2, [])], [])
  | _ => ([], [])
def head134_0 (m : Int) (x3 : Int) (x5 : Int) : LSt U := (⟨[(0, .c (.int .u8 m)), (3, .c (.int .u64 x3)), (5, .c (.int .i64 x5))], [], []⟩ : LSt U)
abbrev W134 (m : Int) (Q : AExit → LSt U → Prop) := awp cfg (know know134) (drawOk cfg (know know134)) Try.f134.ntmps lv134 (cd Try.f134 []) (⟨[(0, .c (.int .u8 m))], [], []⟩ : LSt U) Q
abbrev a134_G20c := awp cfg (know know134) (drawOk cfg (know know134)) Try.f134.ntmps lv134
abbrev s134_G20c := seqK cfg (know know134) (drawOk cfg (know know134)) Try.f134.ntmps lv134
theorem vc134 (m : Int) (Q : AExit → LSt U → Prop) (h : LoopWp (awp cfg (know know134) (drawOk cfg (know know134)) Try.f134.ntmps lv134 (cd Try.f134 [1, 1, 0, 1, 0, 0])) (head134_0 m 0 0) (AExit.inBlock 0 (seqK cfg (know know134) (drawOk cfg (know know134)) Try.f134.ntmps lv134 (cd Try.f134 [1, 1, 1]) Q))) :
    W134 m Q := by
  have e_ : (W134 m Q) = ((((LoopWp (a134_G20c (cd Try.f134 [1, 1, 0, 1, 0, 0])) (head134_0 m 0 0) (AExit.inBlock 0 (s134_G20c (cd Try.f134 [1, 1, 1]) Q)))))) := by kernel_rfl
  exact e_.mpr h
abbrev W134_l0 (m : Int) (x3 : Int) (x5 : Int) (N0 : LSt U → Prop) (Q : AExit → LSt U → Prop) := awp cfg (know know134) (drawOk cfg (know know134)) Try.f134.ntmps lv134 (cd Try.f134 [1, 1, 0, 1, 0, 0]) (head134_0 m x3 x5) (AExit.then N0 (AExit.inBlock 0 (seqK cfg (know know134) (drawOk cfg (know know134)) Try.f134.ntmps lv134 (cd Try.f134 [1, 1, 1]) Q)))
theorem vc134_l0 (m : Int) (x3 : Int) (x5 : Int) (N0 : LSt U → Prop) (Q : AExit → LSt U → Prop) (h : ((decide ((x5 : Int) < 8)) = true → ((0 : Int) ≤ x5) ∧ (((((IntKind.wrap .u8 (BitVec.ofInt (IntKind.bits .u8) (Int.fdiv m (2 ^ (min (Int.toNat x5) (IntKind.bits .u8)))) &&& BitVec.ofInt (IntKind.bits .u8) 1).toNat) : Int) == 1) = true → (InR ((8 : Int) * x5)) ∧ ((0 : Int) ≤ ((8 : Int) * x5)) ∧ ((InR ((x5 : Int) + 1)) ∧ (N0 (head134_0 m (IntKind.wrap .u64 (BitVec.ofInt (IntKind.bits .u64) x3 ||| BitVec.ofInt (IntKind.bits .u64) (IntKind.wrap .u64 ((255 : Int) * 2 ^ (min (Int.toNat ((8 : Int) * x5)) (IntKind.bits .u64))))).toNat) ((x5 : Int) + 1))))) ∧ ((((IntKind.wrap .u8 (BitVec.ofInt (IntKind.bits .u8) (Int.fdiv m (2 ^ (min (Int.toNat x5) (IntKind.bits .u8)))) &&& BitVec.ofInt (IntKind.bits .u8) 1).toNat) : Int) == 1) = false → (InR ((x5 : Int) + 1)) ∧ (N0 (head134_0 m x3 ((x5 : Int) + 1)))))) ∧ ((decide ((x5 : Int) < 8)) = false → Q .ret (⟨[(2, .c (.int .u64 x3))], [], []⟩ : LSt U))) :
    W134_l0 m x3 x5 N0 Q := by
  have e_ : (W134_l0 m x3 x5 N0 Q) = (let zz0 := (((IntKind.wrap .u8 (BitVec.ofInt (IntKind.bits .u8) (Int.fdiv m (2 ^ (min (Int.toNat x5) (IntKind.bits .u8)))) &&& BitVec.ofInt (IntKind.bits .u8) 1).toNat) : Int) == 1); (((decide ((x5 : Int) < 8)) = true → (((0 : Int) ≤ x5) ∧ ((zz0 = true → (InR ((8 : Int) * x5)) ∧ ((0 : Int) ≤ ((8 : Int) * x5)) ∧ ((InR ((x5 : Int) + 1)) ∧ (N0 (head134_0 m (IntKind.wrap .u64 (BitVec.ofInt (IntKind.bits .u64) x3 ||| BitVec.ofInt (IntKind.bits .u64) (IntKind.wrap .u64 ((255 : Int) * 2 ^ (min (Int.toNat ((8 : Int) * x5)) (IntKind.bits .u64))))).toNat) ((x5 : Int) + 1))))) ∧ (zz0 = false → (InR ((x5 : Int) + 1)) ∧ (N0 (head134_0 m x3 ((x5 : Int) + 1))))))) ∧ ((decide ((x5 : Int) < 8)) = false → (Q .ret (⟨[(2, .c (.int .u64 x3))], [], []⟩ : LSt U))))) := by kernel_rfl
  exact e_.mpr ⟨fun c_1 => ⟨(h.1 c_1).1, ⟨fun c_2 => ⟨((h.1 c_1).2.1 c_2).1, ((h.1 c_1).2.1 c_2).2.1, ⟨((h.1 c_1).2.1 c_2).2.2.1, ((h.1 c_1).2.1 c_2).2.2.2⟩⟩, fun c_2 => ⟨((h.1 c_1).2.2 c_2).1, ((h.1 c_1).2.2 c_2).2⟩⟩⟩, fun c_1 => (h.2 c_1)⟩
def Body134 (m : Int)  : Prop := awp cfg (know (know134)) (drawOk cfg (know (know134))) Try.f134.ntmps lv134 (cd Try.f134 []) (entry (args134.can (m, ())) []) (EndsQ cfg Try.f134.ntmps Try.f134.results.toList (res134 (m, ())) [])
theorem make134 (hb : ∀ (m : Int) (_ : Unit), pre134 (m, ()) → Body134 m) : Contract Try.prog cfg 134 spec134 :=
  contract_flat (l := []) cfgOk rfl (trivial) lv134 Try.func134 rfl rfl 1 (fun _ => rfl) (by decide) (fun ⟨m, _⟩ => hb m ())
noncomputable def know127 : List (FuncId × Fs U) := [(134, spec134)]
def lv127 : Lives U := fun i => match i with
  | 0 => ([(0, []), (1, []), (2, [])], [])
  | 1 => ([(6, [])], [])
  | _ => ([], [])
abbrev W127 (a : Int) (b : Int) (m : Int) (Q : AExit → LSt U → Prop) := awp cfg (know know127) (drawOk cfg (know know127)) Try.f127.ntmps lv127 (cd Try.f127 []) (⟨[(0, .c (.int .u64 a)), (1, .c (.int .u64 b)), (2, .c (.int .u8 m))], [], []⟩ : LSt U) Q
theorem vc127 (a : Int) (b : Int) (m : Int) (Q : AExit → LSt U → Prop) (h : (pre134 (m, ())) ∧ (pre134 (m, ())) ∧ (Q .ret (⟨[(6, .c (.int .u64 (IntKind.wrap .u64 (BitVec.ofInt (IntKind.bits .u64) (IntKind.wrap .u64 (BitVec.ofInt (IntKind.bits .u64) a &&& ~~~(BitVec.ofInt (IntKind.bits .u64) ((widN (m).toNat 8 : Nat) : Int))).toNat) ||| BitVec.ofInt (IntKind.bits .u64) (IntKind.wrap .u64 (BitVec.ofInt (IntKind.bits .u64) b &&& BitVec.ofInt (IntKind.bits .u64) ((widN (m).toNat 8 : Nat) : Int)).toNat)).toNat)))], [], []⟩ : LSt U))) :
    W127 a b m Q := by
  have e_ : (W127 a b m Q) = (type_of% h) := by kernel_rfl
  exact e_.mpr ⟨h.1, h.2.1, h.2.2⟩
def Body127 (a : Int) (b : Int) (m : Int)  : Prop := awp cfg (know (know127)) (drawOk cfg (know (know127))) Try.f127.ntmps lv127 (cd Try.f127 []) (entry (args127.can (a, b, m, ())) []) (EndsQ cfg Try.f127.ntmps Try.f127.results.toList (res127 (a, b, m, ())) [])
theorem make127 (c134 : Contract Try.prog cfg 134 spec134) (hb : ∀ (a : Int) (b : Int) (m : Int) (_ : Unit), pre127 (a, b, m, ()) → Body127 a b m) : Contract Try.prog cfg 127 spec127 :=
  contract_flat (l := [(134, spec134)]) cfgOk rfl (⟨c134, trivial⟩) lv127 Try.func127 rfl rfl 3 (fun _ => rfl) (by decide) (fun ⟨a, b, m, _⟩ => hb a b m ())
noncomputable def know119 : List (FuncId × Fs U) := [(46, spec46)]
def lv119 : Lives U := fun i => match i with
  | 0 => ([(1, [])], [((.loc 1), [])])
  | 1 => ([(2, [])], [])
  | _ => ([], [])
abbrev W119 (t : Tree) (Q : AExit → LSt U → Prop) := awp cfg (know know119) (drawOk cfg (know know119)) Try.f119.ntmps lv119 (cd Try.f119 []) (⟨[(0, .agg [.int .i64 (Tree.kind t), .slice (U := U) .u64 (Tree.words t) .unk, .slice (U := U) .tree (Tree.kids t) .unk])], [], []⟩ : LSt U) Q
theorem vc119 (t : Tree) (Q : AExit → LSt U → Prop) (h : ((((Tree.kind t) : Int) != 10) = true → pre46 ((Tree.mk (Tree.kind t) (Tree.words t) (Tree.kids t)), ())) ∧ (Q .ret (⟨[(2, .c (.bool (bif (((Tree.kind t) : Int) != 10) then (rightT (Tree.mk (Tree.kind t) (Tree.words t) (Tree.kids t)) 64) else false)))], [], []⟩ : LSt U))) :
    W119 t Q := by
  have e_ : (W119 t Q) = (((TrG20c (((Tree.kind t) != 10) = true)) ∧ (((Tree.kind t) != 10) = true → pre46 ((Tree.mk (Tree.kind t) (Tree.words t) (Tree.kids t)), ())) ∧ ((TrG20c (((Tree.kind t) != 10) = true))) ∧ (Q .ret (⟨[(2, .c (.bool (bif ((Tree.kind t) != 10) then (rightT (Tree.mk (Tree.kind t) (Tree.words t) (Tree.kids t)) 64) else false)))], [], []⟩ : LSt U)))) := by kernel_rfl
  exact e_.mpr ⟨id, h.1, (by generalize (((Tree.kind t) : Int) != 10) = b0; revert b0; decide), h.2⟩
def Body119 (t : Tree)  : Prop := awp cfg (know (know119)) (drawOk cfg (know (know119))) Try.f119.ntmps lv119 (cd Try.f119 []) (entry (args119.can (t, ())) []) (EndsQ cfg Try.f119.ntmps Try.f119.results.toList (res119 (t, ())) [])
theorem make119 (c46 : Contract Try.prog cfg 46 spec46) (hb : ∀ (t : Tree) (_ : Unit), pre119 (t, ()) → Body119 t) : Contract Try.prog cfg 119 spec119 :=
  contract_flat (l := [(46, spec46)]) cfgOk rfl (⟨c46, trivial⟩) lv119 Try.func119 rfl rfl 1 (fun _ => rfl) (by decide) (fun ⟨t, _⟩ => hb t ())
noncomputable def know137 : List (FuncId × Fs U) := [(46, spec46)]
def lv137 : Lives U := fun i => match i with
  | 0 => ([(0, []), (3, [])], [((.loc 3), [])])
  | 1 => ([(4, [])], [])
  | _ => ([], [])
abbrev W137 (list : Int) (t : Tree) (Q : AExit → LSt U → Prop) := awp cfg (know know137) (drawOk cfg (know know137)) Try.f137.ntmps lv137 (cd Try.f137 []) (⟨[(0, .c (.int .i64 list)), (1, .agg [.int .i64 (Tree.kind t), .slice (U := U) .u64 (Tree.words t) .unk, .slice (U := U) .tree (Tree.kids t) .unk])], [], []⟩ : LSt U) Q
theorem vc137 (list : Int) (t : Tree) (Q : AExit → LSt U → Prop) (h : (pre46 ((Tree.mk list ([]) ([(Tree.mk (Tree.kind t) (Tree.words t) (Tree.kids t))])), ())) ∧ (Q .ret (⟨[(4, .c (.bool (rightT (Tree.mk list ([]) ([(Tree.mk (Tree.kind t) (Tree.words t) (Tree.kids t))])) 64)))], [], []⟩ : LSt U))) :
    W137 list t Q := by
  have e_ : (W137 list t Q) = (type_of% h) := by kernel_rfl
  exact e_.mpr ⟨h.1, h.2⟩
def Body137 (list : Int) (t : Tree)  : Prop := awp cfg (know (know137)) (drawOk cfg (know (know137))) Try.f137.ntmps lv137 (cd Try.f137 []) (entry (args137.can (list, t, ())) []) (EndsQ cfg Try.f137.ntmps Try.f137.results.toList (res137 (list, t, ())) [])
theorem make137 (c46 : Contract Try.prog cfg 46 spec46) (hb : ∀ (list : Int) (t : Tree) (_ : Unit), pre137 (list, t, ()) → Body137 list t) : Contract Try.prog cfg 137 spec137 :=
  contract_flat (l := [(46, spec46)]) cfgOk rfl (⟨c46, trivial⟩) lv137 Try.func137 rfl rfl 2 (fun _ => rfl) (by decide) (fun ⟨list, t, _⟩ => hb list t ())
noncomputable def know138 : List (FuncId × Fs U) := [(49, spec49)]
def lv138 : Lives U := fun i => match i with
  | 0 => ([(0, []), (3, [])], [((.loc 3), [])])
  | 1 => ([(0, []), (3, []), (5, [])], [((.loc 3), [])])
  | 2 => ([(4, [])], [])
  | 3 => ([(3, []), (13, [])], [((.loc 3), [])])
  | 4 => ([(4, [])], [])
  | 5 => ([(4, [])], [])
  | _ => ([], [])
abbrev W138 (list : Int) (e : Edit) (Q : AExit → LSt U → Prop) := awp cfg (know know138) (drawOk cfg (know know138)) Try.f138.ntmps lv138 (cd Try.f138 []) (⟨[(0, .c (.int .i64 list)), (1, .agg [.int .i64 (Edit.kind e), .int .i64 (Tree.kind (Edit.old e)), .slice (U := U) .u64 (Tree.words (Edit.old e)) .unk, .slice (U := U) .tree (Tree.kids (Edit.old e)) .unk, .int .i64 (Tree.kind (Edit.new e)), .slice (U := U) .u64 (Tree.words (Edit.new e)) .unk, .slice (U := U) .tree (Tree.kids (Edit.new e)) .unk, .slice (U := U) .wedit (Edit.words e) .unk, .slice (U := U) .kid (Edit.kids e) .unk, .int .i64 (Edit.list e), .slice (U := U) .op (Edit.ops e) .unk])], [], []⟩ : LSt U) Q
theorem vc138 (list : Int) (e : Edit) (Q : AExit → LSt U → Prop) (h : (pre49 (list, ())) ∧ (((bif (decide (2 ≤ list ∧ list ≤ 7)) then true else (((Edit.kind e) : Int) == 0)) = true → Q .ret (⟨[(4, .c (.bool false))], [], []⟩ : LSt U)) ∧ ((bif (decide (2 ≤ list ∧ list ≤ 7)) then true else (((Edit.kind e) : Int) == 0)) = false → ((bif ((list : Int) == 8) then true else (((Edit.kind e) : Int) == 2)) = true → Q .ret (⟨[(4, .c (.bool true))], [], []⟩ : LSt U)) ∧ ((bif ((list : Int) == 8) then true else (((Edit.kind e) : Int) == 2)) = false → Q .ret (⟨[(4, .c (.bool (bif (bif (((Edit.kind e) : Int) == 1) then (((Tree.kind (Edit.old e)) : Int) == 1) else false) then (((Tree.kind (Edit.new e)) : Int) == 1) else false)))], [], []⟩ : LSt U))))) :
    W138 list e Q := by
  have e_ : (W138 list e Q) = (let zz2 := (bif ((list : Int) == 8) then true else ((Edit.kind e) == 2)); let zz1 := (decide (2 ≤ list ∧ list ≤ 7)); let zz0 := (bif ((Edit.kind e) == 1) then (((Tree.kind (Edit.old e)) : Int) == 1) else false); ((pre49 (list, ())) ∧ (TrG20c ((!zz1) = true)) ∧ (TrG20c ((!zz1) = true)) ∧ ((zz1 = false → (!zz1) = true)) ∧ (((bif zz1 then true else ((Edit.kind e) == 0)) = true → (Q .ret (⟨[(4, .c (.bool false))], [], []⟩ : LSt U))) ∧ ((bif zz1 then true else ((Edit.kind e) == 0)) = false → (TrG20c ((!((list : Int) == 8)) = true)) ∧ (TrG20c ((!((list : Int) == 8)) = true)) ∧ ((((list : Int) == 8) = false → (!((list : Int) == 8)) = true)) ∧ ((zz2 = true → (Q .ret (⟨[(4, .c (.bool true))], [], []⟩ : LSt U))) ∧ (zz2 = false → (TrG20c (((Edit.kind e) == 1) = true)) ∧ (TrG20c (((Edit.kind e) == 1) = true)) ∧ (TrG20c (((Edit.kind e) == 1) = true)) ∧ ((TrG20c (((Edit.kind e) == 1) = true))) ∧ (TrG20c (zz0 = true)) ∧ (TrG20c (zz0 = true)) ∧ (TrG20c (zz0 = true)) ∧ ((TrG20c (zz0 = true))) ∧ (Q .ret (⟨[(4, .c (.bool (bif zz0 then (((Tree.kind (Edit.new e)) : Int) == 1) else false)))], [], []⟩ : LSt U)))))))) := by kernel_rfl
  exact e_.mpr ⟨h.1, id, id, (by generalize (decide (2 ≤ list ∧ list ≤ 7)) = b0; revert b0; decide), ⟨fun c_3 => (h.2.1 c_3), fun c_3 => ⟨id, id, (by generalize ((list : Int) == 8) = b0; revert b0; decide), ⟨fun c_4 => ((h.2.2 c_3).1 c_4), fun c_4 => ⟨id, id, id, (by generalize (((Edit.kind e) : Int) == 1) = b0; revert b0; decide), id, id, id, (by generalize (((Tree.kind (Edit.old e)) : Int) == 1) = b0; generalize (((Edit.kind e) : Int) == 1) = b1; revert b0 b1; decide), ((h.2.2 c_3).2 c_4)⟩⟩⟩⟩⟩
def Body138 (list : Int) (e : Edit)  : Prop := awp cfg (know (know138)) (drawOk cfg (know (know138))) Try.f138.ntmps lv138 (cd Try.f138 []) (entry (args138.can (list, e, ())) []) (EndsQ cfg Try.f138.ntmps Try.f138.results.toList (res138 (list, e, ())) [])
theorem make138 (c49 : Contract Try.prog cfg 49 spec49) (hb : ∀ (list : Int) (e : Edit) (_ : Unit), pre138 (list, e, ()) → Body138 list e) : Contract Try.prog cfg 138 spec138 :=
  contract_flat (l := [(49, spec49)]) cfgOk rfl (⟨c49, trivial⟩) lv138 Try.func138 rfl rfl 2 (fun _ => rfl) (by decide) (fun ⟨list, e, _⟩ => hb list e ())
noncomputable def know120 : List (FuncId × Fs U) := [(127, spec127)]
def lv120 : Lives U := fun i => match i with
  | 0 => ([(0, [])], [])
  | 1 => ([(0, []), (5, []), (6, []), (7, [])], [])
  | 2 => ([(0, []), (5, []), (6, []), (7, []), (8, [])], [])
  | 3 => ([(0, []), (3, []), (4, []), (5, []), (6, []), (7, [])], [((.loc 4), [])])
  | 4 => ([(0, []), (4, []), (5, []), (6, []), (7, []), (39, [])], [((.loc 4), [])])
  | 5 => ([(2, [])], [])
  | 6 => ([(0, []), (5, []), (6, []), (7, []), (53, [])], [])
  | 7 => ([(2, [])], [])
  | 8 => ([(0, []), (5, []), (6, []), (7, [])], [])
  | 9 => ([(2, [])], [])
  | _ => ([], [])
def head120_0 (l : List WEdit) (x7 : Int) : LSt U := (⟨[(0, .c (.slice (U := U) .wedit l .unk)), (5, .c (.slice (U := U) .wedit l .unk)), (6, .c (.int .i64 (l.length : Int))), (7, .c (.int .i64 x7))], [], []⟩ : LSt U)
abbrev W120 (l : List WEdit) (Q : AExit → LSt U → Prop) := awp cfg (know know120) (drawOk cfg (know know120)) Try.f120.ntmps lv120 (cd Try.f120 []) (⟨[(0, .c (.slice (U := U) .wedit l .unk))], [], []⟩ : LSt U) Q
abbrev a120_G20c := awp cfg (know know120) (drawOk cfg (know know120)) Try.f120.ntmps lv120
abbrev s120_G20c := seqK cfg (know know120) (drawOk cfg (know know120)) Try.f120.ntmps lv120
theorem vc120 (l : List WEdit) (Q : AExit → LSt U → Prop) (h : LoopWp (awp cfg (know know120) (drawOk cfg (know know120)) Try.f120.ntmps lv120 (cd Try.f120 [1, 0, 1, 0, 0])) (head120_0 l 0) (AExit.inBlock 0 (seqK cfg (know know120) (drawOk cfg (know know120)) Try.f120.ntmps lv120 (cd Try.f120 [1, 1]) Q))) :
    W120 l Q := by
  have e_ : (W120 l Q) = (((LoopWp (a120_G20c (cd Try.f120 [1, 0, 1, 0, 0])) (head120_0 l 0) (AExit.inBlock 0 (s120_G20c (cd Try.f120 [1, 1]) Q))))) := by kernel_rfl
  exact e_.mpr h
abbrev W120_l0 (l : List WEdit) (x7 : Int) (N0 : LSt U → Prop) (Q : AExit → LSt U → Prop) := awp cfg (know know120) (drawOk cfg (know know120)) Try.f120.ntmps lv120 (cd Try.f120 [1, 0, 1, 0, 0]) (head120_0 l x7) (AExit.then N0 (AExit.inBlock 0 (seqK cfg (know know120) (drawOk cfg (know know120)) Try.f120.ntmps lv120 (cd Try.f120 [1, 1]) Q)))
theorem vc120_l0 (l : List WEdit) (x7 : Int) (N0 : LSt U → Prop) (Q : AExit → LSt U → Prop) (h : ∀ y_1, y_1 = (List.getD l (Int.toNat x7) (WEdit.mk 0 0 0 0)) → ∀ y_2, y_2 = (List.getD l (Int.toNat ((x7 : Int) - 1)) (WEdit.mk 0 0 0 0)) → ((decide ((x7 : Int) < (l.length : Int))) = true → ((0 : Int) ≤ x7 ∧ x7 < (l.length : Int)) ∧ ((((!(bif (decide (((WEdit.at_ y_1) : Int) < 0)) then true else (decide ((65535 : Int) ≤ (WEdit.at_ y_1))))) && (decide ((0 : Int) < x7))) = true → InR ((x7 : Int) - 1)) ∧ (((!(bif (decide (((WEdit.at_ y_1) : Int) < 0)) then true else (decide ((65535 : Int) ≤ (WEdit.at_ y_1))))) && (decide ((0 : Int) < x7))) = true → (0 : Int) ≤ ((x7 : Int) - 1) ∧ ((x7 : Int) - 1) < (l.length : Int)) ∧ (((bif (bif (bif (decide (((WEdit.at_ y_1) : Int) < 0)) then true else (decide ((65535 : Int) ≤ (WEdit.at_ y_1)))) then true else (bif (decide ((0 : Int) < x7)) then (decide (((WEdit.at_ y_1) : Int) ≤ (WEdit.at_ y_2))) else false)) then true else (((WEdit.mask y_1) : Int) == 0)) = true → Q .ret (⟨[(2, .c (.bool false))], [], []⟩ : LSt U)) ∧ ((bif (bif (bif (decide (((WEdit.at_ y_1) : Int) < 0)) then true else (decide ((65535 : Int) ≤ (WEdit.at_ y_1)))) then true else (bif (decide ((0 : Int) < x7)) then (decide (((WEdit.at_ y_1) : Int) ≤ (WEdit.at_ y_2))) else false)) then true else (((WEdit.mask y_1) : Int) == 0)) = false → (pre127 ((WEdit.old y_1), 0, (WEdit.mask y_1), ())) ∧ ((!(((mix (WEdit.old y_1) 0 (WEdit.mask y_1)) : Int) != 0)) = true → pre127 ((WEdit.new y_1), 0, (WEdit.mask y_1), ())) ∧ (((bif (((mix (WEdit.old y_1) 0 (WEdit.mask y_1)) : Int) != 0) then true else (((mix (WEdit.new y_1) 0 (WEdit.mask y_1)) : Int) != 0)) = true → Q .ret (⟨[(2, .c (.bool false))], [], []⟩ : LSt U)) ∧ ((bif (((mix (WEdit.old y_1) 0 (WEdit.mask y_1)) : Int) != 0) then true else (((mix (WEdit.new y_1) 0 (WEdit.mask y_1)) : Int) != 0)) = false → (InR ((x7 : Int) + 1)) ∧ (N0 (head120_0 l ((x7 : Int) + 1))))))))) ∧ ((decide ((x7 : Int) < (l.length : Int))) = false → Q .ret (⟨[(2, .c (.bool true))], [], []⟩ : LSt U))) :
    W120_l0 l x7 N0 Q := by
  have e_ : (W120_l0 l x7 N0 Q) = (let y_1 := (List.getD l (Int.toNat x7) (WEdit.mk 0 0 0 0)); let y_2 := (List.getD l (Int.toNat ((x7 : Int) - 1)) (WEdit.mk 0 0 0 0)); let zz5 := (((mix (WEdit.new y_1) 0 (WEdit.mask y_1)) : Int) != 0); let zz4 := (decide ((WEdit.at_ y_1) < 0)); let zz3 := (decide ((0 : Int) < x7)); let zz2 := (bif zz3 then (decide ((WEdit.at_ y_1) ≤ (WEdit.at_ y_2))) else false); let zz1 := (((mix (WEdit.old y_1) 0 (WEdit.mask y_1)) : Int) != 0); let zz0 := (bif zz4 then true else (decide ((65535 : Int) ≤ (WEdit.at_ y_1)))); (((decide ((x7 : Int) < (l.length : Int))) = true → ((0 : Int) ≤ x7 ∧ x7 < (l.length : Int)) ∧ ((TrG20c ((!zz4) = true)) ∧ (TrG20c ((!zz4) = true)) ∧ ((zz4 = false → (!zz4) = true)) ∧ (TrG20c ((!zz0) = true)) ∧ (TrG20c ((!zz0) = true)) ∧ (TrG20c (((!zz0) && zz3) = true)) ∧ (((!zz0) && zz3) = true → InR ((x7 : Int) - 1)) ∧ (TrG20c (((!zz0) && zz3) = true)) ∧ (TrG20c (((!zz0) && zz3) = true)) ∧ (((!zz0) && zz3) = true → (0 : Int) ≤ ((x7 : Int) - 1) ∧ ((x7 : Int) - 1) < (l.length : Int)) ∧ (TrG20c (((!zz0) && zz3) = true)) ∧ (TrG20c (((!zz0) && zz3) = true)) ∧ (TrG20c (((!zz0) && zz3) = true)) ∧ (TrG20c (((!zz0) && zz3) = true)) ∧ (TrG20c (((!zz0) && zz3) = true)) ∧ ((!zz0) = true → (True → (!zz0) = true)) ∧ ((!zz0) = true → (zz3 = true → ((!zz0) && zz3) = true)) ∧ ((zz0 = false → (!zz0) = true)) ∧ (TrG20c ((!(bif zz0 then true else zz2)) = true)) ∧ (TrG20c ((!(bif zz0 then true else zz2)) = true)) ∧ (((bif zz0 then true else zz2) = false → (!(bif zz0 then true else zz2)) = true)) ∧ (((bif (bif zz0 then true else zz2) then true else ((WEdit.mask y_1) == 0)) = true → (Q .ret (⟨[(2, .c (.bool false))], [], []⟩ : LSt U))) ∧ ((bif (bif zz0 then true else zz2) then true else ((WEdit.mask y_1) == 0)) = false → (pre127 ((WEdit.old y_1), 0, (WEdit.mask y_1), ())) ∧ (TrG20c ((!zz1) = true)) ∧ (TrG20c ((!zz1) = true)) ∧ (TrG20c ((!zz1) = true)) ∧ (TrG20c ((!zz1) = true)) ∧ ((!zz1) = true → pre127 ((WEdit.new y_1), 0, (WEdit.mask y_1), ())) ∧ (TrG20c ((!zz1) = true)) ∧ ((zz1 = false → (!zz1) = true)) ∧ (((bif zz1 then true else zz5) = true → (Q .ret (⟨[(2, .c (.bool false))], [], []⟩ : LSt U))) ∧ ((bif zz1 then true else zz5) = false → (InR ((x7 : Int) + 1)) ∧ (N0 (head120_0 l ((x7 : Int) + 1))))))))) ∧ ((decide ((x7 : Int) < (l.length : Int))) = false → (Q .ret (⟨[(2, .c (.bool true))], [], []⟩ : LSt U))))) := by kernel_rfl
  exact e_.mpr (by intro y_1 y_2; have hh := h y_1 rfl y_2 rfl; exact ⟨fun c_5 => ⟨(hh.1 c_5).1, ⟨id, id, (by generalize (decide (((WEdit.at_ y_1) : Int) < 0)) = b0; revert b0; decide), id, id, id, (hh.1 c_5).2.1, id, id, (hh.1 c_5).2.2.1, id, id, id, id, id, (by generalize (decide ((65535 : Int) ≤ (WEdit.at_ y_1))) = b0; generalize (decide (((WEdit.at_ y_1) : Int) < 0)) = b1; revert b0 b1; decide), (by generalize (decide ((65535 : Int) ≤ (WEdit.at_ y_1))) = b0; generalize (decide (((WEdit.at_ y_1) : Int) < 0)) = b1; generalize (decide ((0 : Int) < x7)) = b2; revert b0 b1 b2; decide), (by generalize (decide ((65535 : Int) ≤ (WEdit.at_ y_1))) = b0; generalize (decide (((WEdit.at_ y_1) : Int) < 0)) = b1; revert b0 b1; decide), id, id, (by generalize (decide (((WEdit.at_ y_1) : Int) ≤ (WEdit.at_ y_2))) = b0; generalize (decide ((65535 : Int) ≤ (WEdit.at_ y_1))) = b1; generalize (decide (((WEdit.at_ y_1) : Int) < 0)) = b2; generalize (decide ((0 : Int) < x7)) = b3; revert b0 b1 b2 b3; decide), ⟨fun c_6 => ((hh.1 c_5).2.2.2.1 c_6), fun c_6 => ⟨((hh.1 c_5).2.2.2.2 c_6).1, id, id, id, id, ((hh.1 c_5).2.2.2.2 c_6).2.1, id, (by generalize (((mix (WEdit.old y_1) 0 (WEdit.mask y_1)) : Int) != 0) = b0; revert b0; decide), ⟨fun c_7 => (((hh.1 c_5).2.2.2.2 c_6).2.2.1 c_7), fun c_7 => ⟨(((hh.1 c_5).2.2.2.2 c_6).2.2.2 c_7).1, (((hh.1 c_5).2.2.2.2 c_6).2.2.2 c_7).2⟩⟩⟩⟩⟩⟩, fun c_5 => (hh.2 c_5)⟩)
def Body120 (l : List WEdit)  : Prop := awp cfg (know (know120)) (drawOk cfg (know (know120))) Try.f120.ntmps lv120 (cd Try.f120 []) (entry (args120.can (l, ())) []) (EndsQ cfg Try.f120.ntmps Try.f120.results.toList (res120 (l, ())) [])
theorem make120 (c127 : Contract Try.prog cfg 127 spec127) (hb : ∀ (l : List WEdit) (_ : Unit), pre120 (l, ()) → Body120 l) : Contract Try.prog cfg 120 spec120 :=
  contract_flat (l := [(127, spec127)]) cfgOk rfl (⟨c127, trivial⟩) lv120 Try.func120 rfl rfl 1 (fun _ => rfl) (by decide) (fun ⟨l, _⟩ => hb l ())
end
end Go.AM.Ytlahjnelghpmeaa

namespace Go.AM.Ytlahjnelghpmeaa
open Go.AM Go.Proofs
theorem bit_of : ∀ n : Fin 256, ∀ i : Fin 8, IntKind.wrap .u8 (BitVec.ofInt (IntKind.bits .u8) (Int.fdiv (n.1 : Int) (2 ^ (min (Int.toNat (i.1 : Int)) (IntKind.bits .u8)))) &&& BitVec.ofInt (IntKind.bits .u8) 1).toNat = ((n.1 / 2 ^ i.1 % 2 : Nat) : Int) := by decide +kernel
theorem or_byte : ∀ n : Fin 256, ∀ i : Fin 8, IntKind.wrap .u64 (BitVec.ofInt (IntKind.bits .u64) ((widN n.1 i.1 : Nat) : Int) ||| BitVec.ofInt (IntKind.bits .u64) (IntKind.wrap .u64 (255 * 2 ^ (min (Int.toNat (8 * (i.1 : Int))) (IntKind.bits .u64))))).toNat = ((widN n.1 i.1 + 255 * 2 ^ (8 * i.1) : Nat) : Int) := by decide +kernel
theorem c134 : Contract Try.prog cfg 134 spec134 := by
  refine make134 ?_
  intro m _ hp
  simp only [pre134] at hp
  obtain ⟨n, rfl⟩ := Int.eq_ofNat_of_zero_le hp.1
  have hn : n < 256 := by omega
  refine vc134 _ _ ?_
  refine loop_rule (ι := Nat) (fun i => head134_0 n ((widN n i : Nat) : Int) i) (fun i => i ≤ 8) (fun i => 8 - i) 0 rfl (by omega) ?_
  intro i hi
  refine vc134_l0 _ _ _ _ _ ?_
  (simp only [vcS])
  refine ⟨fun hc => ⟨by omega, fun hq => ⟨by unfold InR; omega, by omega, by unfold InR; omega, i + 1, ?_, by omega, by omega⟩, fun hq => ⟨by unfold InR; omega, i + 1, ?_, by omega, by omega⟩⟩, fun hc => ?_⟩
  · have h1 := bit_of ⟨n, hn⟩ ⟨i, by omega⟩
    have h2 := or_byte ⟨n, hn⟩ ⟨i, by omega⟩
    simp only at h1 h2
    rw [h1] at hq
    rw [h2]
    have e : widN n (i + 1) = widN n i + 255 * 2 ^ (8 * i) := by simp only [widN]; rw [if_pos (by omega)]
    rw [e]
    rfl
  · have h1 := bit_of ⟨n, hn⟩ ⟨i, by omega⟩
    simp only at h1
    rw [h1] at hq
    have e : widN n (i + 1) = widN n i := by simp only [widN]; rw [if_neg (by omega)]; omega
    rw [e]
    rfl
  · have : i = 8 := by omega
    subst this
    exact ends_int rfl rfl
theorem ofInt_nat (a : Nat) (h : a < 2 ^ 64) : (BitVec.ofInt 64 (a : Int)).toNat = a := by
  rw [BitVec.toNat_ofInt]
  omega
theorem c127 : Contract Try.prog cfg 127 spec127 := by
  refine make127 c134 ?_
  intro a b m _ hp
  simp only [pre127] at hp
  obtain ⟨⟨a0, a1⟩, ⟨b0, b1⟩, m0, m1⟩ := hp
  obtain ⟨x, rfl⟩ := Int.eq_ofNat_of_zero_le a0
  obtain ⟨y, rfl⟩ := Int.eq_ofNat_of_zero_le b0
  obtain ⟨n, rfl⟩ := Int.eq_ofNat_of_zero_le m0
  have hn : n < 256 := by omega
  have hx : x < 2 ^ 64 := by omega
  have hy : y < 2 ^ 64 := by omega
  have hw := widW_lt ⟨n, hn⟩
  have hw2 := widN_eq ⟨n, hn⟩
  simp only at hw hw2
  rw [← hw2] at hw
  refine vc127 _ _ _ _ ?_
  refine ⟨⟨m0, m1⟩, ⟨m0, m1⟩, ends_int rfl ?_⟩
  have em : mix x y n = (((x &&& (2 ^ 64 - 1 - widN n 8)) ||| (y &&& widN n 8) : Nat) : Int) := by rw [← mixW_mix, ← mix_bits x y n hn]
  have e1 : (BitVec.ofInt 64 (x : Int) &&& ~~~(BitVec.ofInt 64 ((widN n 8 : Nat) : Int))).toNat = x &&& (2 ^ 64 - 1 - widN n 8) := by
    rw [BitVec.toNat_and, BitVec.toNat_not, ofInt_nat x hx, ofInt_nat _ hw]
  have e2 : (BitVec.ofInt 64 (y : Int) &&& BitVec.ofInt 64 ((widN n 8 : Nat) : Int)).toNat = y &&& widN n 8 := by
    rw [BitVec.toNat_and, ofInt_nat y hy, ofInt_nat _ hw]
  have l1 : x &&& (2 ^ 64 - 1 - widN n 8) < 2 ^ 64 := Nat.lt_of_le_of_lt Nat.and_le_left hx
  have l2 : y &&& widN n 8 < 2 ^ 64 := Nat.lt_of_le_of_lt Nat.and_le_left hy
  have l3 : (x &&& (2 ^ 64 - 1 - widN n 8)) ||| (y &&& widN n 8) < 2 ^ 64 := Nat.or_lt_two_pow l1 l2
  have key : IntKind.wrap .u64 ((BitVec.ofInt 64 (IntKind.wrap .u64 ((BitVec.ofInt 64 (x : Int) &&& ~~~(BitVec.ofInt 64 ((widN n 8 : Nat) : Int))).toNat : Int)) ||| BitVec.ofInt 64 (IntKind.wrap .u64 ((BitVec.ofInt 64 (y : Int) &&& BitVec.ofInt 64 ((widN n 8 : Nat) : Int)).toNat : Int))).toNat : Int) = mix x y n := by
    have w1 : ∀ k : Nat, k < 2 ^ 64 → IntKind.wrap .u64 (k : Int) = k := fun k hk => wrap_u64 (by omega) (by omega)
    rw [e1, e2, w1 _ l1, w1 _ l2, BitVec.toNat_or, ofInt_nat _ l1, ofInt_nat _ l2, w1 _ l3, em]
  exact key
theorem c119 : Contract Try.prog cfg 119 spec119 := by
  refine make119 c46 ?_
  intro t _ hp
  refine vc119 _ _ ?_
  (simp only [Tree.eta, Edit.eta, Tree.kind_mk, Tree.words_mk, Tree.kids_mk])
  refine ⟨fun _ => hp, ends_bool rfl ?_⟩
  rw [Bool.eq_iff_iff]
  (simp only [vcS])
theorem c137 : Contract Try.prog cfg 137 spec137 := by
  refine make137 c46 ?_
  intro list t _ hp
  simp only [pre137] at hp
  refine vc137 _ _ _ ?_
  (simp only [Tree.eta, Edit.eta, Tree.kind_mk, Tree.words_mk, Tree.kids_mk])
  refine ⟨⟨?_, ?_⟩, by (repeat' (first | exact trivial | exact rfl | apply And.intro))⟩
  · simp only [mass, massK, List.length_nil]; omega
  · simp only [rng, rngK]
    have hi := hp.2.2
    unfold isI at hi
    exact ⟨hi, by simp, hp.2.1, trivial⟩
theorem c138 : Contract Try.prog cfg 138 spec138 := by
  refine make138 c49 ?_
  intro list e _ hp
  refine vc138 _ _ _ ?_
  (simp only [vcS])
  refine ⟨trivial, fun h => ?_, fun h => ⟨fun h2 => ?_, fun h2 => ?_⟩⟩
  · exact ends_bool rfl (by show false = withinB list e; unfold withinB; rw [if_pos h])
  · exact ends_bool rfl (by show true = withinB list e; unfold withinB; rw [if_neg (by omega), if_pos h2])
  · refine ends_bool rfl ?_
    show _ = withinB list e
    unfold withinB
    rw [if_neg (by omega), if_neg (by omega), Bool.eq_iff_iff]
    (simp only [vcS])
    omega
theorem wordsOk_cons (last : Int) (w : WEdit) (r : List WEdit) : wordsOk last (w :: r) = (decide (last < w.at_ ∧ w.at_ ≤ 65534 ∧ w.mask ≠ 0) && withinW w.old w.mask && withinW w.new w.mask && wordsOk w.at_ r) := rfl
theorem c120 : Contract Try.prog cfg 120 spec120 := by
  refine make120 c127 ?_
  intro l _ hp
  simp only [pre120] at hp
  refine vc120 _ _ ?_
  refine loop_rule (ι := Int) (fun i => head120_0 l i) (fun i => 0 ≤ i ∧ i ≤ l.length ∧ (i ≠ 0 → 0 ≤ (l.getD (i - 1).toNat (WEdit.mk 0 0 0 0)).at_) ∧ wordsOk (if i = 0 then -1 else (l.getD (i - 1).toNat (WEdit.mk 0 0 0 0)).at_) (l.drop i.toNat) = wordsOk (-1) l) (fun i => ((l.length : Int) - i).toNat) 0 rfl ⟨by omega, by omega, by simp, by simp⟩ ?_
  rintro i ⟨h1, h2, hpos, h3⟩
  refine vc120_l0 _ _ _ _ ?_
  rintro y1 hy1 y2 hy2
  (simp only [vcS])
  refine ⟨fun hi => ?_, fun hi => ?_⟩
  · have hm := hp.2 _ (mem_getD (l := l) (i := i.toNat) (by omega) (WEdit.mk 0 0 0 0))
    rw [dropI h1 hi (WEdit.mk 0 0 0 0), wordsOk_cons] at h3
    rw [← hy1] at h3 hm
    rw [← hy2] at h3 hpos
    obtain ⟨r1, r2, r3, r4⟩ := hm
    unfold isW at r3 r4
    have hw : ∀ x : Int, withinW x y1.mask = decide (mix x 0 y1.mask = 0) := fun x => rfl
    refine ⟨⟨h1, hi⟩, fun _ => by unfold InR; omega, fun _ => ⟨by omega, by omega⟩, fun hq => ?_, fun hq => ⟨⟨r3, by dsimp only; omega, r2⟩, fun _ => ⟨r4, by dsimp only; omega, r2⟩, fun hz => ?_, fun hz => ⟨by unfold InR; omega, i + 1, rfl, ⟨by omega, by omega, fun _ => by rw [show i + 1 - 1 = i by omega, ← hy1]; omega, ?_⟩, by omega⟩⟩⟩
    · refine ends_bool rfl ?_
      show false = wordsOk (-1) l
      rw [← h3, decide_eq_false]
      · rfl
      · split <;> omega
    · refine ends_bool rfl ?_
      show false = wordsOk (-1) l
      rw [← h3, hw, hw]
      rcases hz with hz | hz
      · rw [decide_eq_false hz]; simp
      · rw [decide_eq_false hz]; simp
    · rw [if_neg (by omega), show i + 1 - 1 = i by omega, ← hy1, ← h3, hw, hw, decide_eq_true hz.1, decide_eq_true hz.2, decide_eq_true]
      · simp
      · split <;> omega
  · rw [List.drop_of_length_le (by omega)] at h3
    exact ends_bool rfl (by show true = wordsOk (-1) l; rw [← h3]; rfl)
end Go.AM.Ytlahjnelghpmeaa

namespace Go.AM
def wr (n : Int) : Int := IntKind.wrap .i64 n
def opLenW (o : Op) : Int := if o.kind = 3 then 1 else wr (o.n + o.l.length)
def capW (n : Int) : Int := if 1048576 < n then 1048576 else n
def lenAW : List Op → Int → Int
  | [], n => n
  | o :: r, n => lenAW r (if o.kind = 2 then n else capW (wr (n + opLenW o)))
def lenBW : List Op → Int → Int
  | [], n => n
  | o :: r, n => lenBW r (if o.kind = 1 then n else capW (wr (n + opLenW o)))
def bareE (e : Edit) : Bool :=
  if (e.kind ≠ 1 ∧ ¬(noneT e.old = true ∧ noneT e.new = true)) ∨ (e.kind ≠ 2 ∧ ¬(e.words.length = 0 ∧ e.kids.length = 0)) ∨ (e.kind ≠ 3 ∧ (e.list ≠ 0 ∨ e.ops.length ≠ 0)) then false else true
end Go.AM

namespace Go.AM.Ytlahjnelghpmeaa
open Go.AM Go.Proofs
def args56 : ArgL (Edit × Unit) := (.cons (aEl .edit) .nil)
def pre56 (a : Edit × Unit) : Prop := massE a.1 ≤ 1000000
noncomputable def res56 (a : Edit × Unit) : V U := .tup [(false, [.int .i64 (lenAW (Edit.ops a.1) 0)]), (false, [.int .i64 (lenBW (Edit.ops a.1) 0)])]
noncomputable def spec56 : Fs U := fs args56 (fun a => [pre56 a]) res56
noncomputable def know56 : List (FuncId × Fs U) := []
def lv56 : Lives U := fun i => match i with
  | 0 => ([(1, [])], [((.loc 1), [])])
  | 1 => ([(1, []), (4, []), (5, [])], [((.loc 1), [])])
  | 2 => ([(4, []), (5, []), (10, []), (11, []), (12, [])], [])
  | 3 => ([(4, []), (5, []), (10, []), (11, []), (12, []), (13, [])], [])
  | 4 => ([(4, []), (5, []), (7, []), (10, []), (11, []), (12, [])], [((.loc 7), [])])
  | 5 => ([(4, []), (5, []), (7, []), (8, []), (10, []), (11, []), (12, [])], [((.loc 7), [])])
  | 6 => ([(4, []), (5, []), (7, []), (8, []), (10, []), (11, []), (12, []), (24, [])], [((.loc 7), [])])
  | 7 => ([(4, []), (5, []), (7, []), (8, []), (10, []), (11, []), (12, []), (24, [])], [((.loc 7), [])])
  | 8 => ([(4, []), (5, []), (7, []), (8, []), (10, []), (11, []), (12, []), (27, [])], [((.loc 7), [])])
  | 9 => ([(4, []), (5, []), (7, []), (8, []), (10, []), (11, []), (12, []), (27, [])], [((.loc 7), [])])
  | 10 => ([(4, []), (5, []), (8, []), (10, []), (11, []), (12, []), (34, [])], [])
  | 11 => ([(4, []), (5, []), (10, []), (11, []), (12, [])], [])
  | 12 => ([(4, []), (5, []), (10, []), (11, []), (12, [])], [])
  | 13 => ([(2, []), (3, [])], [])
  | _ => ([], [])
def head56_0 (e : Edit) (x4 : Int) (x5 : Int) (x12 : Int) : LSt U := (⟨[(4, .c (.int .i64 x4)), (5, .c (.int .i64 x5)), (10, .c (.slice (U := U) .op (Edit.ops e) .unk)), (11, .c (.int .i64 ((Edit.ops e).length : Int))), (12, .c (.int .i64 x12))], [], []⟩ : LSt U)
def head56_1 (e : Edit) (x4 : Int) (x5 : Int) (x12 : Int) (x8_a : Int) : LSt U := (⟨[(4, .c (.int .i64 x4)), (5, .c (.int .i64 x5)), (7, .ptr (.loc 7) 0), (8, .c (.int .i64 x8_a)), (10, .c (.slice (U := U) .op (Edit.ops e) .unk)), (11, .c (.int .i64 ((Edit.ops e).length : Int))), (12, .c (.int .i64 x12)), (24, .c (.bool (((OpOf.kind (List.getD (Edit.ops e) (Int.toNat x12) Op.nil)) : Int) == 3)))], [((.loc 7), [.int .i64 (OpOf.kind (List.getD (Edit.ops e) (Int.toNat x12) Op.nil)), .int .i64 (OpOf.n (List.getD (Edit.ops e) (Int.toNat x12) Op.nil)), .slice (U := U) .tree (OpOf.l (List.getD (Edit.ops e) (Int.toNat x12) Op.nil)) .unk, .int .i64 (Edit.kind (OpOf.e (List.getD (Edit.ops e) (Int.toNat x12) Op.nil))), .int .i64 (Tree.kind (Edit.old (OpOf.e (List.getD (Edit.ops e) (Int.toNat x12) Op.nil)))), .slice (U := U) .u64 (Tree.words (Edit.old (OpOf.e (List.getD (Edit.ops e) (Int.toNat x12) Op.nil)))) .unk, .slice (U := U) .tree (Tree.kids (Edit.old (OpOf.e (List.getD (Edit.ops e) (Int.toNat x12) Op.nil)))) .unk, .int .i64 (Tree.kind (Edit.new (OpOf.e (List.getD (Edit.ops e) (Int.toNat x12) Op.nil)))), .slice (U := U) .u64 (Tree.words (Edit.new (OpOf.e (List.getD (Edit.ops e) (Int.toNat x12) Op.nil)))) .unk, .slice (U := U) .tree (Tree.kids (Edit.new (OpOf.e (List.getD (Edit.ops e) (Int.toNat x12) Op.nil)))) .unk, .slice (U := U) .wedit (Edit.words (OpOf.e (List.getD (Edit.ops e) (Int.toNat x12) Op.nil))) .unk, .slice (U := U) .kid (Edit.kids (OpOf.e (List.getD (Edit.ops e) (Int.toNat x12) Op.nil))) .unk, .int .i64 (Edit.list (OpOf.e (List.getD (Edit.ops e) (Int.toNat x12) Op.nil))), .slice (U := U) .op (Edit.ops (OpOf.e (List.getD (Edit.ops e) (Int.toNat x12) Op.nil))) .unk])], []⟩ : LSt U)
def head56_2 (e : Edit) (x5 : Int) (x12 : Int) (x8_a : Int) (x4_b : Int) : LSt U := (⟨[(4, .c (.int .i64 x4_b)), (5, .c (.int .i64 x5)), (7, .ptr (.loc 7) 0), (8, .c (.int .i64 x8_a)), (10, .c (.slice (U := U) .op (Edit.ops e) .unk)), (11, .c (.int .i64 ((Edit.ops e).length : Int))), (12, .c (.int .i64 x12)), (27, .c (.bool (((OpOf.kind (List.getD (Edit.ops e) (Int.toNat x12) Op.nil)) : Int) != 2)))], [((.loc 7), [.int .i64 (OpOf.kind (List.getD (Edit.ops e) (Int.toNat x12) Op.nil)), .int .i64 (OpOf.n (List.getD (Edit.ops e) (Int.toNat x12) Op.nil)), .slice (U := U) .tree (OpOf.l (List.getD (Edit.ops e) (Int.toNat x12) Op.nil)) .unk, .int .i64 (Edit.kind (OpOf.e (List.getD (Edit.ops e) (Int.toNat x12) Op.nil))), .int .i64 (Tree.kind (Edit.old (OpOf.e (List.getD (Edit.ops e) (Int.toNat x12) Op.nil)))), .slice (U := U) .u64 (Tree.words (Edit.old (OpOf.e (List.getD (Edit.ops e) (Int.toNat x12) Op.nil)))) .unk, .slice (U := U) .tree (Tree.kids (Edit.old (OpOf.e (List.getD (Edit.ops e) (Int.toNat x12) Op.nil)))) .unk, .int .i64 (Tree.kind (Edit.new (OpOf.e (List.getD (Edit.ops e) (Int.toNat x12) Op.nil)))), .slice (U := U) .u64 (Tree.words (Edit.new (OpOf.e (List.getD (Edit.ops e) (Int.toNat x12) Op.nil)))) .unk, .slice (U := U) .tree (Tree.kids (Edit.new (OpOf.e (List.getD (Edit.ops e) (Int.toNat x12) Op.nil)))) .unk, .slice (U := U) .wedit (Edit.words (OpOf.e (List.getD (Edit.ops e) (Int.toNat x12) Op.nil))) .unk, .slice (U := U) .kid (Edit.kids (OpOf.e (List.getD (Edit.ops e) (Int.toNat x12) Op.nil))) .unk, .int .i64 (Edit.list (OpOf.e (List.getD (Edit.ops e) (Int.toNat x12) Op.nil))), .slice (U := U) .op (Edit.ops (OpOf.e (List.getD (Edit.ops e) (Int.toNat x12) Op.nil))) .unk])], []⟩ : LSt U)
abbrev W56 (e : Edit) (Q : AExit → LSt U → Prop) := awp cfg (knowW know56) (drawOk cfg (knowW know56)) Try.f56.ntmps lv56 (cd Try.f56 []) (⟨[(0, .agg [.int .i64 (Edit.kind e), .int .i64 (Tree.kind (Edit.old e)), .slice (U := U) .u64 (Tree.words (Edit.old e)) .unk, .slice (U := U) .tree (Tree.kids (Edit.old e)) .unk, .int .i64 (Tree.kind (Edit.new e)), .slice (U := U) .u64 (Tree.words (Edit.new e)) .unk, .slice (U := U) .tree (Tree.kids (Edit.new e)) .unk, .slice (U := U) .wedit (Edit.words e) .unk, .slice (U := U) .kid (Edit.kids e) .unk, .int .i64 (Edit.list e), .slice (U := U) .op (Edit.ops e) .unk])], [], []⟩ : LSt U) Q
theorem vc56 (e : Edit) (Q : AExit → LSt U → Prop) (h : LoopWp (awp cfg (knowW know56) (drawOk cfg (knowW know56)) Try.f56.ntmps lv56 (cd Try.f56 [1, 1, 0, 1, 0, 0])) (head56_0 e 0 0 0) (AExit.inBlock 0 (seqK cfg (knowW know56) (drawOk cfg (knowW know56)) Try.f56.ntmps lv56 (cd Try.f56 [1, 1, 1]) Q))) :
    W56 e Q := by
  have e_ : (W56 e Q) = ((((LoopWp (awp cfg (knowW know56) (drawOk cfg (knowW know56)) Try.f56.ntmps lv56 (cd Try.f56 [1, 1, 0, 1, 0, 0])) (head56_0 e 0 0 0) (AExit.inBlock 0 (seqK cfg (knowW know56) (drawOk cfg (knowW know56)) Try.f56.ntmps lv56 (cd Try.f56 [1, 1, 1]) Q)))))) := by kernel_rfl
  exact e_.mpr h
abbrev W56_l0 (e : Edit) (x4 : Int) (x5 : Int) (x12 : Int) (N0 : LSt U → Prop) (Q : AExit → LSt U → Prop) := awp cfg (knowW know56) (drawOk cfg (knowW know56)) Try.f56.ntmps lv56 (cd Try.f56 [1, 1, 0, 1, 0, 0]) (head56_0 e x4 x5 x12) (AExit.then N0 (AExit.inBlock 0 (seqK cfg (knowW know56) (drawOk cfg (knowW know56)) Try.f56.ntmps lv56 (cd Try.f56 [1, 1, 1]) Q)))
theorem vc56_l0 (e : Edit) (x4 : Int) (x5 : Int) (x12 : Int) (N0 : LSt U → Prop) (Q : AExit → LSt U → Prop) (h : ((decide ((x12 : Int) < ((Edit.ops e).length : Int))) = true → ((0 : Int) ≤ x12 ∧ x12 < ((Edit.ops e).length : Int)) ∧ (((((OpOf.kind (List.getD (Edit.ops e) (Int.toNat x12) Op.nil)) : Int) == 3) = true → awp cfg (knowW know56) (drawOk cfg (knowW know56)) Try.f56.ntmps lv56 (cd Try.f56 [1, 1, 0, 1, 0, 0, 1, 1, 0, 0, 1, 1, 1]) (head56_1 e x4 x5 x12 1) (AExit.inBlock 1 (seqK cfg (knowW know56) (drawOk cfg (knowW know56)) Try.f56.ntmps lv56 (cd Try.f56 [1, 1, 0, 1, 0, 0, 1, 1, 1]) (AExit.then N0 (AExit.inBlock 0 (seqK cfg (knowW know56) (drawOk cfg (knowW know56)) Try.f56.ntmps lv56 (cd Try.f56 [1, 1, 1]) Q)))))) ∧ ((((OpOf.kind (List.getD (Edit.ops e) (Int.toNat x12) Op.nil)) : Int) == 3) = false → awp cfg (knowW know56) (drawOk cfg (knowW know56)) Try.f56.ntmps lv56 (cd Try.f56 [1, 1, 0, 1, 0, 0, 1, 1, 0, 0, 1, 1, 1]) (head56_1 e x4 x5 x12 (IntKind.wrap .i64 (((OpOf.n (List.getD (Edit.ops e) (Int.toNat x12) Op.nil)) : Int) + ((OpOf.l (List.getD (Edit.ops e) (Int.toNat x12) Op.nil)).length : Int)))) (AExit.inBlock 1 (seqK cfg (knowW know56) (drawOk cfg (knowW know56)) Try.f56.ntmps lv56 (cd Try.f56 [1, 1, 0, 1, 0, 0, 1, 1, 1]) (AExit.then N0 (AExit.inBlock 0 (seqK cfg (knowW know56) (drawOk cfg (knowW know56)) Try.f56.ntmps lv56 (cd Try.f56 [1, 1, 1]) Q)))))))) ∧ ((decide ((x12 : Int) < ((Edit.ops e).length : Int))) = false → Q .ret (⟨[(2, .c (.int .i64 x4)), (3, .c (.int .i64 x5))], [], []⟩ : LSt U))) :
    W56_l0 e x4 x5 x12 N0 Q := by
  have e_ : (W56_l0 e x4 x5 x12 N0 Q) = (let zz0 := (((OpOf.kind (List.getD (Edit.ops e) (Int.toNat x12) Op.nil)) : Int) == 3); (((decide ((x12 : Int) < ((Edit.ops e).length : Int))) = true → ((0 : Int) ≤ x12 ∧ x12 < ((Edit.ops e).length : Int)) ∧ ((((zz0 = true → (awp cfg (knowW know56) (drawOk cfg (knowW know56)) Try.f56.ntmps lv56 (cd Try.f56 [1, 1, 0, 1, 0, 0, 1, 1, 0, 0, 1, 1, 1]) (head56_1 e x4 x5 x12 1) (AExit.inBlock 1 (seqK cfg (knowW know56) (drawOk cfg (knowW know56)) Try.f56.ntmps lv56 (cd Try.f56 [1, 1, 0, 1, 0, 0, 1, 1, 1]) (AExit.then N0 (AExit.inBlock 0 (seqK cfg (knowW know56) (drawOk cfg (knowW know56)) Try.f56.ntmps lv56 (cd Try.f56 [1, 1, 1]) Q))))))) ∧ (zz0 = false → awp cfg (knowW know56) (drawOk cfg (knowW know56)) Try.f56.ntmps lv56 (cd Try.f56 [1, 1, 0, 1, 0, 0, 1, 1, 0, 0, 1, 1, 1]) (head56_1 e x4 x5 x12 (IntKind.wrap .i64 (((OpOf.n (List.getD (Edit.ops e) (Int.toNat x12) Op.nil)) : Int) + ((OpOf.l (List.getD (Edit.ops e) (Int.toNat x12) Op.nil)).length : Int)))) (AExit.inBlock 1 (seqK cfg (knowW know56) (drawOk cfg (knowW know56)) Try.f56.ntmps lv56 (cd Try.f56 [1, 1, 0, 1, 0, 0, 1, 1, 1]) (AExit.then N0 (AExit.inBlock 0 (seqK cfg (knowW know56) (drawOk cfg (knowW know56)) Try.f56.ntmps lv56 (cd Try.f56 [1, 1, 1]) Q)))))))))) ∧ ((decide ((x12 : Int) < ((Edit.ops e).length : Int))) = false → (Q .ret (⟨[(2, .c (.int .i64 x4)), (3, .c (.int .i64 x5))], [], []⟩ : LSt U))))) := by kernel_rfl
  exact e_.mpr ⟨fun c_1 => ⟨(h.1 c_1).1, ⟨fun c_2 => ((h.1 c_1).2.1 c_2), fun c_2 => ((h.1 c_1).2.2 c_2)⟩⟩, fun c_1 => (h.2 c_1)⟩
abbrev W56_c1 (e : Edit) (x4 : Int) (x5 : Int) (x12 : Int) (x8_a : Int) (N0 : LSt U → Prop) (Q : AExit → LSt U → Prop) := awp cfg (knowW know56) (drawOk cfg (knowW know56)) Try.f56.ntmps lv56 (cd Try.f56 [1, 1, 0, 1, 0, 0, 1, 1, 0, 0, 1, 1, 1]) (head56_1 e x4 x5 x12 x8_a) (AExit.inBlock 1 (seqK cfg (knowW know56) (drawOk cfg (knowW know56)) Try.f56.ntmps lv56 (cd Try.f56 [1, 1, 0, 1, 0, 0, 1, 1, 1]) (AExit.then N0 (AExit.inBlock 0 (seqK cfg (knowW know56) (drawOk cfg (knowW know56)) Try.f56.ntmps lv56 (cd Try.f56 [1, 1, 1]) Q)))))
theorem vc56_c1 (e : Edit) (x4 : Int) (x5 : Int) (x12 : Int) (x8_a : Int) (N0 : LSt U → Prop) (Q : AExit → LSt U → Prop) (h : ((((OpOf.kind (List.getD (Edit.ops e) (Int.toNat x12) Op.nil)) : Int) != 2) = true → awp cfg (knowW know56) (drawOk cfg (knowW know56)) Try.f56.ntmps lv56 (cd Try.f56 [1, 1, 0, 1, 0, 0, 1, 1, 0, 0, 1, 1, 1, 1]) (head56_2 e x5 x12 x8_a (if (1048576 : Int) < (IntKind.wrap .i64 ((x4 : Int) + x8_a)) then 1048576 else (IntKind.wrap .i64 ((x4 : Int) + x8_a)))) (AExit.inBlock 1 (seqK cfg (knowW know56) (drawOk cfg (knowW know56)) Try.f56.ntmps lv56 (cd Try.f56 [1, 1, 0, 1, 0, 0, 1, 1, 1]) (AExit.then N0 (AExit.inBlock 0 (seqK cfg (knowW know56) (drawOk cfg (knowW know56)) Try.f56.ntmps lv56 (cd Try.f56 [1, 1, 1]) Q)))))) ∧ ((((OpOf.kind (List.getD (Edit.ops e) (Int.toNat x12) Op.nil)) : Int) != 2) = false → awp cfg (knowW know56) (drawOk cfg (knowW know56)) Try.f56.ntmps lv56 (cd Try.f56 [1, 1, 0, 1, 0, 0, 1, 1, 0, 0, 1, 1, 1, 1]) (head56_2 e x5 x12 x8_a x4) (AExit.inBlock 1 (seqK cfg (knowW know56) (drawOk cfg (knowW know56)) Try.f56.ntmps lv56 (cd Try.f56 [1, 1, 0, 1, 0, 0, 1, 1, 1]) (AExit.then N0 (AExit.inBlock 0 (seqK cfg (knowW know56) (drawOk cfg (knowW know56)) Try.f56.ntmps lv56 (cd Try.f56 [1, 1, 1]) Q))))))) :
    W56_c1 e x4 x5 x12 x8_a N0 Q := by
  have e_ : (W56_c1 e x4 x5 x12 x8_a N0 Q) = (let zz0 := (((OpOf.kind (List.getD (Edit.ops e) (Int.toNat x12) Op.nil)) : Int) != 2); ((zz0 = true → (awp cfg (knowW know56) (drawOk cfg (knowW know56)) Try.f56.ntmps lv56 (cd Try.f56 [1, 1, 0, 1, 0, 0, 1, 1, 0, 0, 1, 1, 1, 1]) (head56_2 e x5 x12 x8_a (if (1048576 : Int) < (IntKind.wrap .i64 ((x4 : Int) + x8_a)) then 1048576 else (IntKind.wrap .i64 ((x4 : Int) + x8_a)))) (AExit.inBlock 1 (seqK cfg (knowW know56) (drawOk cfg (knowW know56)) Try.f56.ntmps lv56 (cd Try.f56 [1, 1, 0, 1, 0, 0, 1, 1, 1]) (AExit.then N0 (AExit.inBlock 0 (seqK cfg (knowW know56) (drawOk cfg (knowW know56)) Try.f56.ntmps lv56 (cd Try.f56 [1, 1, 1]) Q))))))) ∧ (zz0 = false → awp cfg (knowW know56) (drawOk cfg (knowW know56)) Try.f56.ntmps lv56 (cd Try.f56 [1, 1, 0, 1, 0, 0, 1, 1, 0, 0, 1, 1, 1, 1]) (head56_2 e x5 x12 x8_a x4) (AExit.inBlock 1 (seqK cfg (knowW know56) (drawOk cfg (knowW know56)) Try.f56.ntmps lv56 (cd Try.f56 [1, 1, 0, 1, 0, 0, 1, 1, 1]) (AExit.then N0 (AExit.inBlock 0 (seqK cfg (knowW know56) (drawOk cfg (knowW know56)) Try.f56.ntmps lv56 (cd Try.f56 [1, 1, 1]) Q)))))))) := by kernel_rfl
  exact e_.mpr ⟨fun c_3 => (h.1 c_3), fun c_3 => (h.2 c_3)⟩
abbrev W56_c2 (e : Edit) (x5 : Int) (x12 : Int) (x8_a : Int) (x4_b : Int) (N0 : LSt U → Prop) (Q : AExit → LSt U → Prop) := awp cfg (knowW know56) (drawOk cfg (knowW know56)) Try.f56.ntmps lv56 (cd Try.f56 [1, 1, 0, 1, 0, 0, 1, 1, 0, 0, 1, 1, 1, 1]) (head56_2 e x5 x12 x8_a x4_b) (AExit.inBlock 1 (seqK cfg (knowW know56) (drawOk cfg (knowW know56)) Try.f56.ntmps lv56 (cd Try.f56 [1, 1, 0, 1, 0, 0, 1, 1, 1]) (AExit.then N0 (AExit.inBlock 0 (seqK cfg (knowW know56) (drawOk cfg (knowW know56)) Try.f56.ntmps lv56 (cd Try.f56 [1, 1, 1]) Q)))))
theorem vc56_c2 (e : Edit) (x5 : Int) (x12 : Int) (x8_a : Int) (x4_b : Int) (N0 : LSt U → Prop) (Q : AExit → LSt U → Prop) (h : ((((OpOf.kind (List.getD (Edit.ops e) (Int.toNat x12) Op.nil)) : Int) != 1) = true → N0 (head56_0 e x4_b (if (1048576 : Int) < (IntKind.wrap .i64 ((x5 : Int) + x8_a)) then 1048576 else (IntKind.wrap .i64 ((x5 : Int) + x8_a))) (IntKind.wrap .i64 ((x12 : Int) + 1)))) ∧ ((((OpOf.kind (List.getD (Edit.ops e) (Int.toNat x12) Op.nil)) : Int) != 1) = false → N0 (head56_0 e x4_b x5 (IntKind.wrap .i64 ((x12 : Int) + 1))))) :
    W56_c2 e x5 x12 x8_a x4_b N0 Q := by
  have e_ : (W56_c2 e x5 x12 x8_a x4_b N0 Q) = ((((((OpOf.kind (List.getD (Edit.ops e) (Int.toNat x12) Op.nil)) : Int) != 1) = true → ((N0 (head56_0 e x4_b (if (1048576 : Int) < (IntKind.wrap .i64 ((x5 : Int) + x8_a)) then 1048576 else (IntKind.wrap .i64 ((x5 : Int) + x8_a))) (IntKind.wrap .i64 ((x12 : Int) + 1)))))) ∧ ((((OpOf.kind (List.getD (Edit.ops e) (Int.toNat x12) Op.nil)) : Int) != 1) = false → (N0 (head56_0 e x4_b x5 (IntKind.wrap .i64 ((x12 : Int) + 1))))))) := by kernel_rfl
  exact e_.mpr ⟨fun c_4 => (h.1 c_4), fun c_4 => (h.2 c_4)⟩
def Body56 (e : Edit)  : Prop := awp cfg (knowW (know56)) (drawOk cfg (knowW (know56))) Try.f56.ntmps lv56 (cd Try.f56 []) (entry (args56.can (e, ())) []) (EndsQ cfg Try.f56.ntmps Try.f56.results.toList (res56 (e, ())) [])
theorem make56 (hb : ∀ (e : Edit) (_ : Unit), pre56 (e, ()) → Body56 e) : Contract Try.prog cfg 56 spec56 :=
  contract_flatW (l := []) cfgOk rfl (trivial) lv56 Try.func56 rfl rfl 1 (fun _ => rfl) (by decide) (fun ⟨e, _⟩ => hb e ())
end Go.AM.Ytlahjnelghpmeaa

namespace Go.AM.Ytlahjnelghpmeaa
open Go.AM Go.Proofs
theorem wr_in {n : Int} (h : InR n) : wr n = n := by
  unfold InR at h
  simp [wr, IntKind.wrap, IntKind.signed, IntKind.bits]
  split <;> omega
theorem lenAW_drop {l : List Op} {i : Int} (n : Int) (h0 : 0 ≤ i) (h : i < l.length) : lenAW (l.drop i.toNat) n = lenAW (l.drop (i + 1).toNat) (if (l.getD i.toNat Op.nil).kind = 2 then n else capW (wr (n + opLenW (l.getD i.toNat Op.nil)))) := by
  rw [dropI h0 h Op.nil, lenAW]
theorem lenBW_drop {l : List Op} {i : Int} (n : Int) (h0 : 0 ≤ i) (h : i < l.length) : lenBW (l.drop i.toNat) n = lenBW (l.drop (i + 1).toNat) (if (l.getD i.toNat Op.nil).kind = 1 then n else capW (wr (n + opLenW (l.getD i.toNat Op.nil)))) := by
  rw [dropI h0 h Op.nil, lenBW]
theorem c56 : Contract Try.prog cfg 56 spec56 := by
  refine make56 ?_
  intro e _ hp
  simp only [pre56] at hp
  have h1 := len_massE e
  have h2 := massOs_len e.ops
  refine vc56 _ _ ?_
  refine loop_rule (ι := Int × Int × Int) (fun s => head56_0 e s.1 s.2.1 s.2.2) (fun s => (0 ≤ s.2.2 ∧ s.2.2 ≤ e.ops.length) ∧ lenAW (e.ops.drop s.2.2.toNat) s.1 = lenAW e.ops 0 ∧ lenBW (e.ops.drop s.2.2.toNat) s.2.1 = lenBW e.ops 0) (fun s => ((e.ops.length : Int) - s.2.2).toNat) (0, 0, 0) rfl ⟨⟨by simp, by simp⟩, rfl, rfl⟩ ?_
  rintro ⟨n, m, i⟩ ⟨⟨g1, g2⟩, g3, g4⟩
  dsimp only at g1 g2 g3 g4
  refine vc56_l0 _ _ _ _ _ _ ?_
  (simp only [vcS])
  refine ⟨fun hi => ⟨⟨g1, hi⟩, ?_⟩, fun hi => ?_⟩
  · rw [lenAW_drop _ g1 hi] at g3
    rw [lenBW_drop _ g1 hi] at g4
    have hk : IntKind.wrap .i64 (i + 1) = i + 1 := wr_in (by unfold InR; omega)
    generalize hy : e.ops.getD i.toNat Op.nil = y at *
    have key : ∀ k : Int, k = opLenW y → ∀ (Q' : AExit → LSt U → Prop), W56_c1 e n m i k (fun s2 => ∃ j : Int × Int × Int, s2 = head56_0 e j.1 j.2.1 j.2.2 ∧ ((0 ≤ j.2.2 ∧ j.2.2 ≤ e.ops.length) ∧ lenAW (e.ops.drop j.2.2.toNat) j.1 = lenAW e.ops 0 ∧ lenBW (e.ops.drop j.2.2.toNat) j.2.1 = lenBW e.ops 0) ∧ ((e.ops.length : Int) - j.2.2).toNat < ((e.ops.length : Int) - i).toNat) Q' := by
      rintro k rfl Q'
      have step2 : ∀ a : Int, a = (if y.kind = 2 then n else capW (wr (n + opLenW y))) → W56_c2 e m i (opLenW y) a (fun s2 => ∃ j : Int × Int × Int, s2 = head56_0 e j.1 j.2.1 j.2.2 ∧ ((0 ≤ j.2.2 ∧ j.2.2 ≤ e.ops.length) ∧ lenAW (e.ops.drop j.2.2.toNat) j.1 = lenAW e.ops 0 ∧ lenBW (e.ops.drop j.2.2.toNat) j.2.1 = lenBW e.ops 0) ∧ ((e.ops.length : Int) - j.2.2).toNat < ((e.ops.length : Int) - i).toNat) Q' := by
        rintro a ha
        refine vc56_c2 _ _ _ _ _ _ _ ?_
        rw [hy, hk]
        (simp only [vcS])
        rw [← ha] at g3
        refine ⟨fun hb => ⟨(a, _, i + 1), rfl, ⟨⟨by dsimp only; omega, by dsimp only; omega⟩, g3, ?_⟩, by dsimp only; omega⟩, fun hb => ⟨(a, _, i + 1), rfl, ⟨⟨by dsimp only; omega, by dsimp only; omega⟩, g3, ?_⟩, by dsimp only; omega⟩⟩
        · rw [if_neg hb] at g4; exact g4
        · rw [if_pos hb] at g4; exact g4
      refine vc56_c1 _ _ _ _ _ _ _ ?_
      rw [hy]
      (simp only [vcS])
      exact ⟨fun hb => step2 _ (by rw [if_neg hb]; rfl), fun hb => step2 _ (by rw [if_pos hb])⟩
    exact ⟨fun hb => key _ (by unfold opLenW; rw [if_pos hb]) _, fun hb => key _ (by unfold opLenW; rw [if_neg hb]; rfl) _⟩
  · rw [List.drop_of_length_le (by omega)] at g3 g4
    simp only [lenAW, lenBW] at g3 g4
    rw [g3, g4]
    (repeat' (first | exact trivial | exact rfl | apply And.intro))
theorem lenAW_eq : ∀ (l : List Op) (n : Int), (∀ o ∈ l, (0 ≤ o.n ∧ o.n ≤ 1048576) ∧ o.l.length ≤ 1000000) → 0 ≤ n → n ≤ 1048576 → lenAW l n = lenA l n
  | [], _, _, _, _ => rfl
  | o :: r, n, h, h0, hn => by
    have ho := h o (List.mem_cons_self ..)
    have hl := opLen_eq o
    have ew : opLenW o = opLen o := by
      unfold opLenW; rw [hl]
      split
      · rfl
      · exact wr_in (by unfold InR; omega)
    have hb : 0 ≤ opLen o ∧ opLen o ≤ 3000000 := by rw [hl]; split <;> omega
    simp only [lenAW, lenA]
    rw [ew, wr_in (by unfold InR; omega)]
    have e2 : (if o.kind = 2 then n else capW (n + opLen o)) = min (if o.kind = 2 then n else n + opLen o) 1048576 := by
      unfold capW; split
      · omega
      · split <;> omega
    rw [e2]
    exact lenAW_eq r _ (fun x hx => h x (List.mem_cons_of_mem _ hx)) (by split <;> omega) (by omega)
theorem lenBW_eq : ∀ (l : List Op) (n : Int), (∀ o ∈ l, (0 ≤ o.n ∧ o.n ≤ 1048576) ∧ o.l.length ≤ 1000000) → 0 ≤ n → n ≤ 1048576 → lenBW l n = lenB l n
  | [], _, _, _, _ => rfl
  | o :: r, n, h, h0, hn => by
    have ho := h o (List.mem_cons_self ..)
    have hl := opLen_eq o
    have ew : opLenW o = opLen o := by
      unfold opLenW; rw [hl]
      split
      · rfl
      · exact wr_in (by unfold InR; omega)
    have hb : 0 ≤ opLen o ∧ opLen o ≤ 3000000 := by rw [hl]; split <;> omega
    simp only [lenBW, lenB]
    rw [ew, wr_in (by unfold InR; omega)]
    have e2 : (if o.kind = 1 then n else capW (n + opLen o)) = min (if o.kind = 1 then n else n + opLen o) 1048576 := by
      unfold capW; split
      · omega
      · split <;> omega
    rw [e2]
    exact lenBW_eq r _ (fun x hx => h x (List.mem_cons_of_mem _ hx)) (by split <;> omega) (by omega)
end Go.AM.Ytlahjnelghpmeaa

namespace Go.AM.Ytlahjnelghpmeaa
open Go.AM Go.Proofs
noncomputable section
def args96 : ArgL (List Tree × List Tree × Unit × Unit) := (.cons (aSl .tree) (.cons (aSl .tree) (.cons (aFn 34) .nil)))
def pre96 (a : List Tree × List Tree × Unit × Unit) : Prop := massK a.1 ≤ 1000000000000 ∧ massK a.2.1 ≤ 1000000000000
noncomputable def res96 (a : List Tree × List Tree × Unit × Unit) : V U := .c (.bool (eqX (normsT a.1) (normsT a.2.1)))
noncomputable def spec96 : Fs U := fs args96 (fun a => [pre96 a]) res96
noncomputable def know96 : List (FuncId × Fs U) := [(34, spec34)]
def lv96 : Lives U := fun i => match i with
  | 0 => ([(0, []), (1, []), (2, [])], [])
  | 1 => ([(0, []), (1, []), (2, []), (14, [])], [])
  | 2 => ([(6, [])], [])
  | 3 => ([(1, []), (2, []), (15, []), (16, []), (17, [])], [])
  | 4 => ([(1, []), (2, []), (15, []), (16, []), (17, []), (18, [])], [])
  | 5 => ([(1, []), (2, []), (7, []), (8, []), (15, []), (16, []), (17, [])], [((.loc 8), [])])
  | 6 => ([(1, []), (2, []), (8, []), (9, []), (15, []), (16, []), (17, [])], [((.loc 8), []), ((.loc 9), [])])
  | 7 => ([(1, []), (2, []), (15, []), (16, []), (17, []), (30, [])], [])
  | 8 => ([(6, [])], [])
  | 9 => ([(1, []), (2, []), (15, []), (16, []), (17, [])], [])
  | 10 => ([(6, [])], [])
  | _ => ([], [])
def head96_0 (a : List Tree) (b : List Tree) (f : Unit) (x17 : Int) : LSt U := (⟨[(1, .c (.slice (U := U) .tree b .unk)), (2, .fn 34), (15, .c (.slice (U := U) .tree a .unk)), (16, .c (.int .i64 (a.length : Int))), (17, .c (.int .i64 x17))], [], []⟩ : LSt U)
abbrev W96 (a : List Tree) (b : List Tree) (f : Unit) (Q : AExit → LSt U → Prop) := awp cfg (know know96) (drawOk cfg (know know96)) Try.f96.ntmps lv96 (cd Try.f96 []) (⟨[(0, .c (.slice (U := U) .tree a .unk)), (1, .c (.slice (U := U) .tree b .unk)), (2, .fn 34)], [], []⟩ : LSt U) Q
abbrev a96_G20d := awp cfg (know know96) (drawOk cfg (know know96)) Try.f96.ntmps lv96
abbrev s96_G20d := seqK cfg (know know96) (drawOk cfg (know know96)) Try.f96.ntmps lv96
theorem vc96 (a : List Tree) (b : List Tree) (f : Unit) (Q : AExit → LSt U → Prop) (h : ((((a.length : Int) : Int) != (b.length : Int)) = true → Q .ret (⟨[(6, .c (.bool false))], [], []⟩ : LSt U)) ∧ ((((a.length : Int) : Int) != (b.length : Int)) = false → LoopWp (awp cfg (know know96) (drawOk cfg (know know96)) Try.f96.ntmps lv96 (cd Try.f96 [1, 1, 0, 1, 0, 0])) (head96_0 a b f 0) (AExit.inBlock 0 (seqK cfg (know know96) (drawOk cfg (know know96)) Try.f96.ntmps lv96 (cd Try.f96 [1, 1, 1]) Q)))) :
    W96 a b f Q := by
  have e_ : (W96 a b f Q) = ((((((a.length : Int) != (b.length : Int)) = true → (Q .ret (⟨[(6, .c (.bool false))], [], []⟩ : LSt U))) ∧ (((a.length : Int) != (b.length : Int)) = false → (LoopWp (a96_G20d (cd Try.f96 [1, 1, 0, 1, 0, 0])) (head96_0 a b f 0) (AExit.inBlock 0 (s96_G20d (cd Try.f96 [1, 1, 1]) Q))))))) := by kernel_rfl
  exact e_.mpr ⟨fun c_4 => (h.1 c_4), fun c_4 => (h.2 c_4)⟩
abbrev W96_l0 (a : List Tree) (b : List Tree) (f : Unit) (x17 : Int) (N0 : LSt U → Prop) (Q : AExit → LSt U → Prop) := awp cfg (know know96) (drawOk cfg (know know96)) Try.f96.ntmps lv96 (cd Try.f96 [1, 1, 0, 1, 0, 0]) (head96_0 a b f x17) (AExit.then N0 (AExit.inBlock 0 (seqK cfg (know know96) (drawOk cfg (know know96)) Try.f96.ntmps lv96 (cd Try.f96 [1, 1, 1]) Q)))
theorem vc96_l0 (a : List Tree) (b : List Tree) (f : Unit) (x17 : Int) (N0 : LSt U → Prop) (Q : AExit → LSt U → Prop) (h : ((decide ((x17 : Int) < (a.length : Int))) = true → ((0 : Int) ≤ x17 ∧ x17 < (a.length : Int)) ∧ (((0 : Int) ≤ x17 ∧ x17 < (b.length : Int)) ∧ ((pre34 ((Tree.mk (Tree.kind (List.getD a (Int.toNat x17) Tree.nil)) (Tree.words (List.getD a (Int.toNat x17) Tree.nil)) (Tree.kids (List.getD a (Int.toNat x17) Tree.nil))), (Tree.mk (Tree.kind (List.getD b (Int.toNat x17) Tree.nil)) (Tree.words (List.getD b (Int.toNat x17) Tree.nil)) (Tree.kids (List.getD b (Int.toNat x17) Tree.nil))), ())) ∧ (((!(sameT (normT (Tree.mk (Tree.kind (List.getD a (Int.toNat x17) Tree.nil)) (Tree.words (List.getD a (Int.toNat x17) Tree.nil)) (Tree.kids (List.getD a (Int.toNat x17) Tree.nil)))) (normT (Tree.mk (Tree.kind (List.getD b (Int.toNat x17) Tree.nil)) (Tree.words (List.getD b (Int.toNat x17) Tree.nil)) (Tree.kids (List.getD b (Int.toNat x17) Tree.nil)))))) = true → Q .ret (⟨[(6, .c (.bool false))], [], []⟩ : LSt U)) ∧ ((!(sameT (normT (Tree.mk (Tree.kind (List.getD a (Int.toNat x17) Tree.nil)) (Tree.words (List.getD a (Int.toNat x17) Tree.nil)) (Tree.kids (List.getD a (Int.toNat x17) Tree.nil)))) (normT (Tree.mk (Tree.kind (List.getD b (Int.toNat x17) Tree.nil)) (Tree.words (List.getD b (Int.toNat x17) Tree.nil)) (Tree.kids (List.getD b (Int.toNat x17) Tree.nil)))))) = false → (InR ((x17 : Int) + 1)) ∧ (N0 (head96_0 a b f ((x17 : Int) + 1)))))))) ∧ ((decide ((x17 : Int) < (a.length : Int))) = false → Q .ret (⟨[(6, .c (.bool true))], [], []⟩ : LSt U))) :
    W96_l0 a b f x17 N0 Q := by
  have e_ : (W96_l0 a b f x17 N0 Q) = (let zz0 := (!(sameT (normT (Tree.mk (Tree.kind (List.getD a (Int.toNat x17) Tree.nil)) (Tree.words (List.getD a (Int.toNat x17) Tree.nil)) (Tree.kids (List.getD a (Int.toNat x17) Tree.nil)))) (normT (Tree.mk (Tree.kind (List.getD b (Int.toNat x17) Tree.nil)) (Tree.words (List.getD b (Int.toNat x17) Tree.nil)) (Tree.kids (List.getD b (Int.toNat x17) Tree.nil)))))); (((decide ((x17 : Int) < (a.length : Int))) = true → ((0 : Int) ≤ x17 ∧ x17 < (a.length : Int)) ∧ (((0 : Int) ≤ x17 ∧ x17 < (b.length : Int)) ∧ ((pre34 ((Tree.mk (Tree.kind (List.getD a (Int.toNat x17) Tree.nil)) (Tree.words (List.getD a (Int.toNat x17) Tree.nil)) (Tree.kids (List.getD a (Int.toNat x17) Tree.nil))), (Tree.mk (Tree.kind (List.getD b (Int.toNat x17) Tree.nil)) (Tree.words (List.getD b (Int.toNat x17) Tree.nil)) (Tree.kids (List.getD b (Int.toNat x17) Tree.nil))), ())) ∧ ((zz0 = true → (Q .ret (⟨[(6, .c (.bool false))], [], []⟩ : LSt U))) ∧ (zz0 = false → (InR ((x17 : Int) + 1)) ∧ (N0 (head96_0 a b f ((x17 : Int) + 1)))))))) ∧ ((decide ((x17 : Int) < (a.length : Int))) = false → (Q .ret (⟨[(6, .c (.bool true))], [], []⟩ : LSt U))))) := by kernel_rfl
  exact e_.mpr ⟨fun c_5 => ⟨(h.1 c_5).1, ⟨(h.1 c_5).2.1, ⟨(h.1 c_5).2.2.1, ⟨fun c_6 => ((h.1 c_5).2.2.2.1 c_6), fun c_6 => ⟨((h.1 c_5).2.2.2.2 c_6).1, ((h.1 c_5).2.2.2.2 c_6).2⟩⟩⟩⟩⟩, fun c_5 => (h.2 c_5)⟩
def Body96 (a : List Tree) (b : List Tree) (f : Unit)  : Prop := awp cfg (know (know96)) (drawOk cfg (know (know96))) Try.f96.ntmps lv96 (cd Try.f96 []) (entry (args96.can (a, b, f, ())) []) (EndsQ cfg Try.f96.ntmps Try.f96.results.toList (res96 (a, b, f, ())) [])
theorem make96 (c34 : Contract Try.prog cfg 34 spec34) (hb : ∀ (a : List Tree) (b : List Tree) (f : Unit) (_ : Unit), pre96 (a, b, f, ()) → Body96 a b f) : Contract Try.prog cfg 96 spec96 :=
  contract_flat (l := [(34, spec34)]) cfgOk rfl (⟨c34, trivial⟩) lv96 Try.func96 rfl rfl 3 (fun _ => rfl) (by decide) (fun ⟨a, b, f, _⟩ => hb a b f ())
end
end Go.AM.Ytlahjnelghpmeaa

namespace Go.AM.Ytlahjnelghpmeaa
open Go.AM Go.Proofs
theorem c96 : Contract Try.prog cfg 96 spec96 := by
  refine make96 c34 ?_
  intro a b f _ hp
  simp only [pre96] at hp
  refine vc96 a b f _ ?_
  (simp only [vcS])
  refine ⟨fun hc => ends_bool rfl (eqX_no (a := normsT a) (b := normsT b) (fun h => hc (by have := congrArg List.length h; simp [normsT] at this; omega))).symm, fun hc => ?_⟩
  have hl : a.length = b.length := by omega
  have hla := massK_len a
  refine loop_rule (ι := Int) (fun i => head96_0 a b f i) (fun i => 0 ≤ i ∧ i ≤ a.length ∧ ∀ j : Nat, (j : Int) < i → normT (a.getD j Tree.nil) = normT (b.getD j Tree.nil)) (fun i => ((a.length : Int) - i).toNat) 0 rfl ⟨by omega, by omega, by intro j hj; omega⟩ ?_
  rintro i ⟨h1, h2, h3⟩
  refine vc96_l0 a b f _ _ _ ?_
  (simp only [vcS])
  (simp only [Tree.eta, Edit.eta, Tree.kind_mk, Tree.words_mk, Tree.kids_mk])
  refine ⟨fun hi => ⟨⟨h1, hi⟩, ⟨h1, by omega⟩, ?_, fun hq => ?_, fun hq => ⟨by unfold InR; omega, i + 1, rfl, ⟨by omega, by omega, ?_⟩, by omega⟩⟩, fun hi => ?_⟩
  · have := massK_mem (mem_getD (l := a) (i := i.toNat) (by omega) Tree.nil)
    have := massK_mem (mem_getD (l := b) (i := i.toNat) (by omega) Tree.nil)
    simp only [pre34]; omega
  · refine ends_bool rfl (eqX_no (a := normsT a) (b := normsT b) (fun h => ?_)).symm
    have h5 := getD_map_eq (d := Tree.nil) h i.toNat
    rw [sameT_false] at hq
    exact hq h5
  · intro j hj
    by_cases hj2 : (j : Int) < i
    · exact h3 j hj2
    · rw [sameT_true, show i.toNat = j by omega] at hq
      exact hq
  · exact ends_bool rfl (eqX_iff (a := normsT a) (b := normsT b).2 (map_eq_getD Tree.nil hl (fun j hj => h3 j (by omega)))).symm
end Go.AM.Ytlahjnelghpmeaa

namespace Go.AM
structure Wst where
  out : List Op
  gone : List Tree
  brought : List Tree
def flushO (out : List Op) (g b : List Tree) : List Op :=
  out ++ ((if g.length = 0 then [] else [⟨1, 0, g, Edit.nil⟩]) ++ (if b.length = 0 then [] else [⟨2, 0, b, Edit.nil⟩]))
def keepO : List Op → Int → List Op
  | [], n => [⟨0, n, [], Edit.nil⟩]
  | [o], n => if o.kind = 0 then [⟨o.kind, o.n + n, o.l, o.e⟩] else [o, ⟨0, n, [], Edit.nil⟩]
  | o :: p :: r, n => o :: keepO (p :: r) n
def flushW (w : Wst) : Wst := ⟨flushO w.out w.gone w.brought, [], []⟩
def keepW (w : Wst) (n : Int) : Wst := ⟨keepO (flushW w).out n, [], []⟩
mutual
def nrmE : Edit → Edit
  | .mk k o n w ks l os =>
    if k = 1 then .mk k (normT o) (normT n) [] [] l []
    else if k = 2 then .mk k Tree.nil Tree.nil w (nrmKs ks) l []
    else if k = 3 then .mk k Tree.nil Tree.nil [] [] l (flushW (nrmOs l os ⟨[], [], []⟩)).out
    else .mk k Tree.nil Tree.nil [] [] l []
def nrmKs : List (KidOf Edit) → List (KidOf Edit)
  | [] => []
  | k :: r => nrmKid k :: nrmKs r
def nrmKid : KidOf Edit → KidOf Edit
  | ⟨a, e⟩ => ⟨a, nrmE e⟩
def nrmOs (list : Int) : List (OpOf Edit) → Wst → Wst
  | [], s => s
  | o :: r, s => nrmOs list r (nrmOp list o s)
def nrmOp (list : Int) : OpOf Edit → Wst → Wst
  | ⟨k, n, l, e⟩, s =>
    if k = 0 then keepW s n
    else if k = 1 then ⟨s.out, s.gone ++ normsT l, s.brought⟩
    else if k = 2 then ⟨s.out, s.gone, s.brought ++ normsT l⟩
    else if k = 3 then (if idleE list (nrmE e) = true then keepW s 1 else ⟨(flushW s).out ++ [⟨3, 0, [], nrmE e⟩], [], []⟩)
    else s
end
theorem nrmE_at (e : Edit) : nrmE e = if e.kind = 1 then .mk e.kind (normT e.old) (normT e.new) [] [] e.list []
    else if e.kind = 2 then .mk e.kind Tree.nil Tree.nil e.words (nrmKs e.kids) e.list []
    else if e.kind = 3 then .mk e.kind Tree.nil Tree.nil [] [] e.list (flushW (nrmOs e.list e.ops ⟨[], [], []⟩)).out
    else .mk e.kind Tree.nil Tree.nil [] [] e.list [] := by cases e; rfl
theorem nrmKid_at (k : Kid) : nrmKid k = ⟨k.at_, nrmE k.e⟩ := by cases k; rfl
theorem nrmOp_at (list : Int) (o : Op) (s : Wst) : nrmOp list o s = if o.kind = 0 then keepW s o.n
    else if o.kind = 1 then ⟨s.out, s.gone ++ normsT o.l, s.brought⟩
    else if o.kind = 2 then ⟨s.out, s.gone, s.brought ++ normsT o.l⟩
    else if o.kind = 3 then (if idleE list (nrmE o.e) = true then keepW s 1 else ⟨(flushW s).out ++ [⟨3, 0, [], nrmE o.e⟩], [], []⟩)
    else s := by cases o; rfl
end Go.AM

namespace Go.AM.Ytlahjnelghpmeaa
open Go.AM Go.Proofs
theorem sameT_self (a : Tree) : sameT a a = true := by simp [sameT]
theorem trim_idem (l : List Int) : trim (trim l) = trim l := by
  induction l with
  | nil => rfl
  | cons x r ih =>
    rw [trim_cons]
    split
    · rfl
    · rename_i h
      rw [trim_cons, ih, if_neg h]
theorem trimK_idem (l : List Tree) : trimK (trimK l) = trimK l := by
  induction l with
  | nil => rfl
  | cons x r ih =>
    rw [trimK_cons]
    split
    · rfl
    · rename_i h
      rw [trimK_cons, ih, if_neg h]
def Normed : List Tree → Prop
  | [] => True
  | t :: r => normT t = t ∧ Normed r
theorem Normed.eq : ∀ {l : List Tree}, Normed l → normK l = l
  | [], _ => rfl
  | t :: r, h => by simp only [normK, h.1, Normed.eq h.2]
theorem Normed.trim : ∀ {l : List Tree}, Normed l → Normed (trimK l)
  | [], _ => trivial
  | t :: r, h => by
    rw [trimK_cons]
    split
    · trivial
    · exact ⟨h.1, Normed.trim h.2⟩
mutual
theorem normT_idem : ∀ (t : Tree), normT (normT t) = normT t
  | .mk k w ks => by
    have h := normK_normed ks
    by_cases h0 : k = 0
    · simp [normT, h0, Tree.nil]
    · by_cases h1 : k = 1
      · subst h1
        simp only [normT, if_neg h0, if_true, trim_idem, h.trim.eq, trimK_idem]
      · simp only [normT, if_neg h0, if_neg h1, h.eq]
theorem normK_normed : ∀ (ks : List Tree), Normed (normK ks)
  | [] => trivial
  | t :: r => ⟨normT_idem t, normK_normed r⟩
end
end Go.AM.Ytlahjnelghpmeaa

namespace Go.AM.Ytlahjnelghpmeaa
open Go.AM Go.Proofs
theorem keepO_cases : ∀ (l : List Op) (n : Int), keepO l n = l ++ [⟨0, n, [], Edit.nil⟩] ∨ ∃ a o, l = a ++ [o] ∧ o.kind = 0 ∧ keepO l n = a ++ [⟨o.kind, o.n + n, o.l, o.e⟩]
  | [], n => Or.inl rfl
  | [o], n => by
    by_cases h : o.kind = 0
    · exact Or.inr ⟨[], o, rfl, h, by simp [keepO, h]⟩
    · exact Or.inl (by simp [keepO, h])
  | o :: p :: r, n => by
    rcases keepO_cases (p :: r) n with h | ⟨a, q, h1, h2, h3⟩
    · exact Or.inl (by simp only [keepO, h, List.cons_append])
    · exact Or.inr ⟨o :: a, q, by rw [h1]; rfl, h2, by simp only [keepO, h3, List.cons_append]⟩
def W0 : Wst := ⟨[], [], []⟩
theorem normsT_idem (l : List Tree) : normsT (normsT l) = normsT l := by
  simp only [normsT, List.map_map]
  congr 1
  funext t
  exact normT_idem t
theorem normsT_append (a b : List Tree) : normsT (a ++ b) = normsT a ++ normsT b := by simp [normsT]
end Go.AM.Ytlahjnelghpmeaa

namespace Go.AM
theorem noneT_is {t : Tree} (h : noneT t = true) : t = Tree.nil := by
  obtain ⟨k, w, ks⟩ := t
  simp only [noneT, decide_eq_true_eq] at h
  obtain ⟨h1, h2, h3⟩ := h
  have h1 : k = 0 := h1
  rw [h1, List.eq_nil_of_length_eq_zero (l := w) h2, List.eq_nil_of_length_eq_zero (l := ks) h3]
  rfl
theorem sameE_is {e : Edit} (h : sameE e = true) : e = Edit.nil := by
  obtain ⟨k, o, n, w, ks, l, os⟩ := e
  simp only [sameE, Bool.and_eq_true, decide_eq_true_eq] at h
  obtain ⟨⟨⟨h1, h2⟩, h3⟩, h4, h5, h6, h7⟩ := h
  have h1 : k = 0 := h1
  have h7 : l = 0 := h7
  rw [h1, h7, noneT_is (t := o) h2, noneT_is (t := n) h3, List.eq_nil_of_length_eq_zero (l := w) h4, List.eq_nil_of_length_eq_zero (l := ks) h5, List.eq_nil_of_length_eq_zero (l := os) h6]
  rfl
structure RightE (e : Edit) (d : Int) : Prop where
  d0 : d ≠ 0
  kind : 0 ≤ e.kind ∧ e.kind ≤ 3
  none : e.kind ≠ 1 → e.old = Tree.nil ∧ e.new = Tree.nil
  words0 : e.kind ≠ 2 → e.words = [] ∧ e.kids = []
  ops0 : e.kind ≠ 3 → e.list = 0 ∧ e.ops = []
  rep : e.kind = 1 → rightT e.old 64 = true ∧ rightT e.new 64 = true ∧ e.old.kind ≠ 10 ∧ e.new.kind ≠ 10
  words : wordsOk (-1) e.words = true
  kids : rightKs (-1) e.kids (d - 1) = true
  list : e.kind = 3 → 2 ≤ e.list ∧ e.list ≤ 9
  ops : rightOs e.list e.ops (d - 1) = true
  len : lenA e.ops 0 < 1048576 ∧ lenB e.ops 0 < 1048576
theorem rightE_all {e : Edit} {d : Int} (h : rightE e d = true) : RightE e d := by
  obtain ⟨k, o, n, w, ks, l, os⟩ := e
  rw [rightE] at h
  split at h
  · cases h
  · rename_i a
    split at h
    · cases h
    · rename_i b
      have b1 : k ≠ 1 → o = Tree.nil ∧ n = Tree.nil := by
        intro hk
        by_cases x : noneT o = true ∧ noneT n = true
        · exact ⟨noneT_is x.1, noneT_is x.2⟩
        · exact absurd (.inl ⟨hk, x⟩) b
      have b2 : k ≠ 2 → w = [] ∧ ks = [] := by
        intro hk
        by_cases x : w.length = 0 ∧ ks.length = 0
        · exact ⟨List.eq_nil_of_length_eq_zero x.1, List.eq_nil_of_length_eq_zero x.2⟩
        · exact absurd (.inr (.inl ⟨hk, x⟩)) b
      have b3 : k ≠ 3 → l = 0 ∧ os = [] := by
        intro hk
        by_cases x : l ≠ 0 ∨ os.length ≠ 0
        · exact absurd (.inr (.inr ⟨hk, x⟩)) b
        · exact ⟨by omega, List.eq_nil_of_length_eq_zero (by omega)⟩
      split at h
      · rename_i c
        simp only [Bool.and_eq_true, decide_eq_true_eq] at h
        obtain ⟨⟨h1, h2⟩, h3, h4⟩ := h
        have c2 := b2 (by omega)
        have c3 := b3 (by omega)
        obtain ⟨rfl, rfl⟩ := c2
        obtain ⟨rfl, rfl⟩ := c3
        exact ⟨by omega, ⟨by show 0 ≤ k; omega, by show k ≤ 3; omega⟩, b1, b2, b3, fun _ => ⟨h1, h2, h3, h4⟩, rfl, rfl, fun e => by have e : k = 3 := e; omega, rfl, by show lenA [] 0 < _ ∧ lenB [] 0 < _; simp [lenA, lenB]⟩
      · rename_i c
        simp only [Bool.and_eq_true, decide_eq_true_eq] at h
        obtain ⟨⟨⟨⟨h1, h2⟩, h3⟩, h4⟩, h5⟩ := h
        exact ⟨by omega, ⟨by show 0 ≤ k; omega, by show k ≤ 3; omega⟩, b1, b2, b3, fun e => absurd e c, h1, h2, fun e => by have e : k = 3 := e; show 2 ≤ l ∧ l ≤ 9; omega, h4, h5⟩
theorem rightKs_all : ∀ {ks : List Kid} {last d : Int}, rightKs last ks d = true → ∀ k ∈ ks, (last < k.at_ ∧ k.at_ ≤ 65534 ∧ k.e.kind ≠ 0) ∧ rightE k.e d = true
  | [], _, _, _, _, hk => by cases hk
  | ⟨a, e⟩ :: r, last, d, h, k, hk => by
    simp only [rightKs, rightKid, Bool.and_eq_true, decide_eq_true_eq] at h
    obtain ⟨⟨h1, h2⟩, h3⟩ := h
    rcases List.mem_cons.1 hk with rfl | hk
    · exact ⟨h1, h2⟩
    · have := rightKs_all h3 k hk
      have h1 : last < a ∧ a ≤ 65534 ∧ e.kind ≠ 0 := h1
      have h4 : a < k.at_ := this.1.1
      exact ⟨⟨by omega, this.1.2⟩, this.2⟩
theorem rightOs_mem {list : Int} : ∀ {os : List Op} {d : Int}, rightOs list os d = true → ∀ o ∈ os, rightOp list o d = true
  | [], _, _, _, ho => by cases ho
  | a :: r, d, h, o, ho => by
    simp only [rightOs, Bool.and_eq_true] at h
    rcases List.mem_cons.1 ho with rfl | ho
    · exact h.1
    · exact rightOs_mem h.2 o ho
theorem wordsOk_all : ∀ {ws : List WEdit} {last : Int}, wordsOk last ws = true → ∀ w ∈ ws, last < w.at_ ∧ w.at_ ≤ 65534 ∧ w.mask ≠ 0 ∧ withinW w.old w.mask = true ∧ withinW w.new w.mask = true
  | [], _, _, _, hw => by cases hw
  | a :: r, last, h, w, hw => by
    simp only [wordsOk, Bool.and_eq_true, decide_eq_true_eq] at h
    obtain ⟨⟨⟨h1, h2⟩, h3⟩, h4⟩ := h
    rcases List.mem_cons.1 hw with rfl | hw
    · exact ⟨h1.1, h1.2.1, h1.2.2, h2, h3⟩
    · have := wordsOk_all h4 w hw
      exact ⟨by omega, this.2⟩
inductive RightOp (list : Int) (d : Int) : Op → Prop
  | keep (n : Int) : 1 ≤ n → n ≤ 1048576 → RightOp list d ⟨0, n, [], Edit.nil⟩
  | gone (l : List Tree) : treesOk list l = true → 0 < l.length → RightOp list d ⟨1, 0, l, Edit.nil⟩
  | come (l : List Tree) : treesOk list l = true → 0 < l.length → RightOp list d ⟨2, 0, l, Edit.nil⟩
  | into (e : Edit) : rightE e d = true → e.kind ≠ 0 → 7 < list → (list = 8 ∨ e.kind = 2 ∨ e.kind = 1 ∧ e.old.kind = 1 ∧ e.new.kind = 1) → RightOp list d ⟨3, 0, [], e⟩
theorem rightOp_all {list : Int} {o : Op} {d : Int} (h : rightOp list o d = true) : RightOp list d o := by
  obtain ⟨k, n, l, e⟩ := o
  rw [rightOp] at h
  split at h
  · rename_i hk
    simp only [Bool.and_eq_true, decide_eq_true_eq] at h
    obtain ⟨⟨h1, h2, h3⟩, h4⟩ := h
    rw [hk, sameE_is h4, List.eq_nil_of_length_eq_zero h3]
    exact .keep n h1 h2
  · rename_i h0
    split at h
    · cases h
    · rename_i h1
      have hn : n = 0 := by omega
      subst hn
      split at h
      · rename_i h2
        simp only [Bool.and_eq_true, decide_eq_true_eq] at h
        obtain ⟨⟨h3, h4⟩, h5⟩ := h
        rw [sameE_is h5]
        by_cases hk : k = 1
        · rw [hk]; exact .gone l h3 h4
        · rw [show k = 2 by omega]; exact .come l h3 h4
      · rename_i h2
        simp only [Bool.and_eq_true, decide_eq_true_eq] at h
        obtain ⟨⟨⟨h3, h4, h5⟩, h6⟩, h7⟩ := h
        rw [show k = 3 by omega, List.eq_nil_of_length_eq_zero h3]
        exact .into e h6 h4 h5 h7
theorem right_kids {e : Edit} {d : Int} (h : rightE e d = true) : (∀ k ∈ e.kids, ∃ d, rightE k.e d = true) ∧ (∀ o ∈ e.ops, ∃ l d, rightOp l o d = true) ∧ (e.kind = 3 → 2 ≤ e.list ∧ e.list ≤ 9) := by
  have r := rightE_all h
  exact ⟨fun k hk => ⟨_, (rightKs_all r.kids k hk).2⟩, fun o ho => ⟨_, _, rightOs_mem r.ops o ho⟩, r.list⟩
theorem right_desc {l d : Int} {o : Op} (h : rightOp l o d = true) (hk : o.kind = 3) : rightE o.e d = true := by
  have r := rightOp_all h
  cases r with
  | into e h1 => exact h1
  | keep | gone | come => exact absurd hk (by simp)
end Go.AM

namespace Go.AM.Ytlahjnelghpmeaa
open Go.AM Go.Proofs
theorem setPad_length {α : Type} (z : α) (l : List α) (i : Nat) (x : α) : (setPad z l i x).length = max l.length (i + 1) := by
  simp only [setPad, List.length_set, List.length_append, List.length_replicate]; omega
theorem setPad_getD {α : Type} (z : α) (l : List α) (i : Nat) (x : α) (j : Nat) : (setPad z l i x).getD j z = if j = i then x else l.getD j z := by
  simp only [setPad, List.getD_eq_getElem?_getD, List.getElem?_set, List.length_append, List.length_replicate]
  by_cases h : j = i
  · subst h; rw [if_pos rfl, if_pos rfl, if_pos (by omega)]; rfl
  · rw [if_neg (fun e => h e.symm), if_neg h]
    by_cases hl : j < l.length
    · rw [List.getElem?_append_left hl]
    · rw [List.getElem?_append_right (by omega), List.getElem?_eq_none (l := l) (by omega), List.getElem?_replicate]
      split <;> rfl
theorem setPad_map {α β : Type} (f : α → β) (z : α) (l : List α) (i : Nat) (x : α) : (setPad z l i x).map f = setPad (f z) (l.map f) i (f x) := by
  simp [setPad, List.map_set]
theorem normK_map : ∀ l : List Tree, normK l = normsT l
  | [] => rfl
  | t :: r => by simp [normK, normsT, normK_map r]
theorem normsT_pad (l : List Tree) (i : Nat) (x : Tree) : normsT (setPad Tree.nil l i x) = setPad Tree.nil (normsT l) i (normT x) := by
  rw [normsT, setPad_map, normT_nil]; rfl
theorem norms_pad {a b : List Tree} {i : Nat} {x y : Tree} (h : normsT a = normsT b) (hx : normT x = normT y) : normsT (setPad Tree.nil a i x) = normsT (setPad Tree.nil b i y) := by
  rw [normsT_pad, normsT_pad, h, hx]
theorem norms_app {a b c d : List Tree} (h : normsT a = normsT b) (hx : normsT c = normsT d) : normsT (a ++ c) = normsT (b ++ d) := by
  rw [normsT_append, normsT_append, h, hx]
theorem normT_mk (k : Int) (w : List Int) {a b : List Tree} (h : normsT a = normsT b) : normT (.mk k w a) = normT (.mk k w b) := by
  simp only [normT, normK_map, h]
theorem norms_len {a b : List Tree} (h : normsT a = normsT b) : a.length = b.length := by
  have := congrArg List.length h
  simpa [normsT] using this
theorem norms_one {a b : Tree} : normsT [a] = normsT [b] ↔ normT a = normT b := by simp [normsT]
def OptR {α β : Type} (R : α → β → Prop) : Option α → Option β → Prop
  | none, none => True
  | some a, some b => R a b
  | _, _ => False
theorem OptR.rfl' {α : Type} (a : Option α) : OptR Eq a a := by cases a; exact trivial; exact rfl
theorem OptR.bind {α β γ δ : Type} {R : α → β → Prop} {S : γ → δ → Prop} {a : Option α} {b : Option β} {f : α → Option γ} {g : β → Option δ} (h : OptR R a b) (hf : ∀ x y, R x y → OptR S (f x) (g y)) : OptR S (a.bind f) (b.bind g) := by
  cases a <;> cases b <;> first | exact trivial | exact h.elim | exact hf _ _ h
theorem OptR.map {α β γ δ : Type} {R : α → β → Prop} {S : γ → δ → Prop} {a : Option α} {b : Option β} {f : α → γ} {g : β → δ} (h : OptR R a b) (hf : ∀ x y, R x y → S (f x) (g y)) : OptR S (a.map f) (b.map g) := by
  cases a <;> cases b <;> first | exact trivial | exact h.elim | exact hf _ _ h
theorem OptR.ite {α β : Type} {R : α → β → Prop} {p q : Prop} [Decidable p] [Decidable q] {a c : Option α} {b d : Option β} (h : p ↔ q) (h1 : p → OptR R a b) (h2 : ¬p → OptR R c d) : OptR R (if p then a else c) (if q then b else d) := by
  by_cases hp : p
  · rw [if_pos hp, if_pos (h.1 hp)]; exact h1 hp
  · rw [if_neg hp, if_neg (fun hq => hp (h.2 hq))]; exact h2 hp
theorem OptR.isSome {α β : Type} {R : α → β → Prop} {a : Option α} {b : Option β} (h : OptR R a b) : a.isSome = b.isSome := by
  cases a <;> cases b <;> first | rfl | exact h.elim
theorem OptR.normed {a b : Option Tree} (h : OptR (fun x y => normT x = normT y) a b) : a.map normT = b.map normT := by
  cases a <;> cases b <;> first | rfl | exact h.elim | exact congrArg some h
def Eqv (x y : Tree) : Prop := normT x = normT y
def EqvL (x y : List Tree) : Prop := normsT x = normsT y
theorem EqvL.take {x y : List Tree} (h : EqvL x y) (n : Nat) : EqvL (x.take n) (y.take n) := by unfold EqvL normsT at *; rw [List.map_take, List.map_take, h]
theorem EqvL.drop {x y : List Tree} (h : EqvL x y) (n : Nat) : EqvL (x.drop n) (y.drop n) := by unfold EqvL normsT at *; rw [List.map_drop, List.map_drop, h]
theorem EqvL.len {x y : List Tree} (h : EqvL x y) : x.length = y.length := norms_len h
theorem norms_getD (l : List Tree) (i : Nat) : (normsT l).getD i Tree.nil = normT (l.getD i Tree.nil) := by rw [← normK_map]; exact normK_getD l i
theorem EqvL.get {x y : List Tree} (h : EqvL x y) (i : Nat) : Eqv (x.getD i Tree.nil) (y.getD i Tree.nil) := by
  unfold Eqv; rw [← norms_getD, ← norms_getD, h]
theorem endD_rel {a b : Option (List Tree × List Tree)} (h : OptR (fun x y => EqvL x.1 y.1 ∧ EqvL x.2 y.2) a b) : OptR EqvL (endD a) (endD b) := by
  unfold endD
  refine h.bind fun x y hxy => ?_
  exact OptR.ite (by rw [hxy.2.len]) (fun _ => hxy.1) (fun _ => trivial)
def EqvW (a b : List Int) : Prop := ∀ i : Nat, a.getD i 0 = b.getD i 0
def EqvS (a b : List Tree) : Prop := ∀ i : Nat, Eqv (a.getD i Tree.nil) (b.getD i Tree.nil)
theorem eqv_struct {a b : Tree} (ha : a.kind = 1) (hb : b.kind = 1) : Eqv a b ↔ EqvW a.words b.words ∧ EqvS a.kids b.kids := by
  unfold Eqv EqvW EqvS
  rw [normT_eq_iff, ha, hb]
  simp [Eqv]
theorem eqv_list {a b : Tree} (h0 : a.kind ≠ 0) (h1 : a.kind ≠ 1) : Eqv a b ↔ a.kind = b.kind ∧ a.words = b.words ∧ EqvL a.kids b.kids := by
  unfold Eqv EqvL
  rw [normT_eq_iff, if_neg h1, ← normK_map, ← normK_map, normK_eq_iff]
  simp [h0, and_assoc]
theorem Eqv.kind {a b : Tree} (h : Eqv a b) : a.kind = b.kind := ((normT_eq_iff a b).1 h).1
theorem wsD_eqv {tw tv : List Int} (h : EqvW tw tv) : ∀ (ws : List WEdit) (a b : List Int), EqvW a b → OptR EqvW (wsD tw ws a) (wsD tv ws b)
  | [], _, _, hab => hab
  | w :: r, a, b, hab => by
    rw [wsD, wsD, h w.at_.toNat]
    refine OptR.ite Iff.rfl (fun _ => wsD_eqv h r _ _ fun i => ?_) (fun _ => trivial)
    rw [setPad_getD, setPad_getD]
    split
    · rfl
    · exact hab i
theorem goneD_eqv (l : List Tree) {a b : List Tree} (h : EqvL a b) : goneD l a = goneD l b := by
  unfold goneD
  rw [h.len, show normsT (a.take l.length) = normsT (b.take l.length) from h.take _]
mutual
theorem doE_eqv : ∀ (e : Edit) (d : Int) (t s : Tree), rightE e d = true → Eqv t s → OptR Eqv (doE false e t) (doE false e s)
  | .mk k o n w ks l os, d, t, s, hr, h => by
    have h1 := doKs_eqv ks t.kids s.kids
    have h2 := doOs_eqv os t.kids s.kids [] []
    have hk := h.kind
    have hrt := right_kids hr
    rw [doE_at, doE_at, nrD_false, nrD_false]
    show OptR Eqv (if k = 0 then _ else _) (if k = 0 then _ else _)
    refine OptR.ite Iff.rfl (fun _ => h) fun _ => OptR.ite Iff.rfl (fun _ => ?_) fun _ => OptR.ite Iff.rfl (fun k2 => ?_) fun _ => OptR.ite Iff.rfl (fun k3 => ?_) (fun _ => trivial)
    · rw [show normT t = normT s from h]
      exact OptR.ite Iff.rfl (fun _ => rfl) (fun _ => trivial)
    · refine OptR.ite (by rw [hk]) (fun ht => ?_) (fun _ => trivial)
      have hs : s.kind = 1 := by rw [← hk]; exact ht
      obtain ⟨hw, hks⟩ := (eqv_struct ht hs).1 h
      refine (wsD_eqv hw w t.words s.words hw).bind fun a b hab => ?_
      refine (h1 hks hrt.1 t.kids s.kids hks).map fun x y hxy => ?_
      exact (eqv_struct rfl rfl).2 ⟨hab, hxy⟩
    · refine OptR.ite (by rw [hk]) (fun ht => ?_) (fun _ => trivial)
      have hl := hrt.2.2
      have hos := hrt.2.1
      replace ht : t.kind = l := ht
      replace hl : 2 ≤ l ∧ l ≤ 9 := hl k3
      obtain ⟨_, _, hks⟩ := (eqv_list (by omega) (by omega)).1 h
      exact (endD_rel (h2 hks rfl hos)).map fun x y hxy => normT_mk _ _ hxy
theorem doKs_eqv : ∀ (ks : List (KidOf Edit)) (tk sk : List Tree), EqvS tk sk → (∀ k ∈ ks, ∃ d, rightE k.e d = true) → ∀ a b, EqvS a b → OptR EqvS (doKs false tk ks a) (doKs false sk ks b)
  | [], _, _, _, _, _, _, hab => hab
  | k :: r, tk, sk, h, hr, a, b, hab => by
    rw [doKs, doKs]
    obtain ⟨d, hd⟩ := hr k List.mem_cons_self
    refine (doKid_eqv k d tk sk h hd).bind fun x y hxy => doKs_eqv r tk sk h (fun q hq => hr q (List.mem_cons_of_mem _ hq)) _ _ fun i => ?_
    rw [setPad_getD, setPad_getD]
    split
    · exact hxy
    · exact hab i
theorem doKid_eqv : ∀ (k : KidOf Edit) (d : Int) (tk sk : List Tree), EqvS tk sk → rightE k.e d = true → OptR Eqv (doKid false tk k) (doKid false sk k)
  | ⟨a, e⟩, d, tk, sk, h, hr => by rw [doKid, doKid]; exact doE_eqv e d _ _ hr (h _)
theorem doOs_eqv : ∀ (os : List (OpOf Edit)) (rt rs a b : List Tree), EqvL rt rs → EqvL a b → (∀ o ∈ os, ∃ l d, rightOp l o d = true) → OptR (fun x y => EqvL x.1 y.1 ∧ EqvL x.2 y.2) (doOs false os rt a) (doOs false os rs b)
  | [], _, _, _, _, h, hab, _ => ⟨hab, h⟩
  | o :: r, rt, rs, a, b, h, hab, hr => by
    rw [doOs, doOs]
    refine (doOp_eqv o rt rs a b h hab (hr o List.mem_cons_self)).bind fun x y hxy => doOs_eqv r _ _ _ _ hxy.2 hxy.1 (fun q hq => hr q (List.mem_cons_of_mem _ hq))
theorem doOp_eqv : ∀ (o : OpOf Edit) (rt rs a b : List Tree), EqvL rt rs → EqvL a b → (∃ l d, rightOp l o d = true) → OptR (fun x y => EqvL x.1 y.1 ∧ EqvL x.2 y.2) (doOp false o rt a) (doOp false o rs b)
  | ⟨k, n, l, e⟩, rt, rs, a, b, h, hab, hr => by
    obtain ⟨li, d, hr⟩ := hr
    have he := fun h3 => doE_eqv e d (rt.getD 0 Tree.nil) (rs.getD 0 Tree.nil) (right_desc hr h3) (h.get 0)
    have hlen := h.len
    rw [doOp, doOp]
    refine OptR.ite Iff.rfl (fun _ => OptR.ite (by rw [hlen]) (fun _ => ⟨norms_app hab (h.take _), h.drop _⟩) (fun _ => trivial)) fun k0 => OptR.ite Iff.rfl (fun _ => ?_) fun k1 => OptR.ite Iff.rfl (fun _ => ⟨norms_app hab rfl, h⟩) fun k2 => OptR.ite (by rw [hlen]) (fun _ => trivial) fun _ => ?_
    · rw [goneD_eqv l h]
      exact OptR.ite Iff.rfl (fun _ => ⟨hab, h.drop _⟩) (fun _ => trivial)
    · have h03 : k = 0 ∨ k = 1 ∨ k = 2 ∨ k = 3 := by
        have r := rightOp_all hr
        generalize ho : OpOf.mk k n l e = o at r
        cases r <;> (injection ho with h1; subst h1; decide)
      exact (he (by show k = 3; omega)).map fun x y h' => ⟨norms_app hab (norms_one.2 h'), h.drop _⟩
end
end Go.AM.Ytlahjnelghpmeaa
