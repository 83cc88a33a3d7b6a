import Derived.Test.YtlahjnelghpmeaaB20c
import Derived.Test.YtlahjnelghpmeaaAmZ
import Derived.Test.YtlahjnelghpmeaaD20
import Derived.Test.YtlahjnelghpmeaaRB07
import Derived.Test.YtlahjnelghpmeaaB07
set_option linter.unusedSimpArgs false
set_option linter.unusedVariables false
namespace Go.AM
noncomputable def eqX {α : Type} (a b : α) : Bool := @decide (a = b) (Classical.propDecidable _)
theorem eqX_iff {α : Type} {a b : α} : eqX a b = true ↔ a = b := by unfold eqX; exact @decide_eq_true_iff _ (Classical.propDecidable _)
end Go.AM

namespace Go.AM.Ytlahjnelghpmeaa
open Go.AM Go.Proofs
theorem massK_drop (n : Nat) : ∀ (l : List Tree), massK (l.drop n) ≤ massK l := by
  induction n with
  | zero => intro l; simp
  | succ n ih =>
    intro l
    cases l with
    | nil => simp
    | cons t r => simp only [List.drop_succ_cons, massK]; have := ih r; omega
theorem massK_take (n : Nat) : ∀ (l : List Tree), massK (l.take n) ≤ massK l := by
  induction n with
  | zero => intro l; simp [massK]
  | succ n ih =>
    intro l
    cases l with
    | nil => simp
    | cons t r => simp only [List.take_succ_cons, massK]; have := ih r; omega
end Go.AM.Ytlahjnelghpmeaa

namespace Go.AM.Ytlahjnelghpmeaa
open Go.AM Go.Proofs
theorem eqX_no {α : Type} {a b : α} (h : ¬ a = b) : eqX a b = false := by rw [← Bool.not_eq_true, eqX_iff]; exact h
end Go.AM.Ytlahjnelghpmeaa

namespace Go.AM
def idleE (list : Int) (e : Edit) : Bool := decide (e.kind = 0 ∨ (list = 9 ∧ e.kind = 2 ∧ e.words.length = 0 ∧ e.kids.length = 0))
def normsT (l : List Tree) : List Tree := l.map normT
def turnW (w : WEdit) : WEdit := ⟨w.at_, w.mask, w.new, w.old⟩
mutual
def turnE : Edit → Edit
  | .mk k o n w ks l os => .mk k n o (w.map turnW) (turnKs ks) l (turnOs os)
def turnKs : List (KidOf Edit) → List (KidOf Edit)
  | [] => []
  | k :: r => turnKid k :: turnKs r
def turnKid : KidOf Edit → KidOf Edit
  | ⟨a, e⟩ => ⟨a, turnE e⟩
def turnOs : List (OpOf Edit) → List (OpOf Edit)
  | [] => []
  | o :: r => turnOp o :: turnOs r
def turnOp : OpOf Edit → OpOf Edit
  | ⟨k, n, l, e⟩ => if k = 1 then ⟨2, n, l, e⟩ else if k = 2 then ⟨1, n, l, e⟩ else if k = 3 then ⟨k, n, l, turnE e⟩ else ⟨k, n, l, e⟩
end
end Go.AM

namespace Go.AM
def setPad {α : Type} (z : α) (l : List α) (i : Nat) (x : α) : List α := (l ++ List.replicate (i + 1 - l.length) z).set i x
def wsD (tw : List Int) : List WEdit → List Int → Option (List Int)
  | [], out => some out
  | w :: r, out => if mix 0 (tw.getD w.at_.toNat 0) w.mask = w.old then wsD tw r (setPad 0 out w.at_.toNat (mix (tw.getD w.at_.toNat 0) w.new w.mask)) else none
noncomputable def goneD (l rest : List Tree) : Bool := decide (l.length ≤ rest.length) && eqX (normsT l) (normsT (rest.take l.length))
def endD (r : Option (List Tree × List Tree)) : Option (List Tree) := r.bind fun x => if x.2.length = 0 then some x.1 else none
def nrD (r : Bool) (t : Tree) : Tree := if r then normT t else t
mutual
noncomputable def doE (r : Bool) : Edit → Tree → Option Tree
  | .mk k o n w ks l os, t =>
    (if k = 0 then some t
    else if k = 1 then (if sameT (normT o) (normT t) = true then some n else none)
    else if k = 2 then (if t.kind = 1 then (wsD t.words w t.words).bind fun a => (doKs r t.kids ks t.kids).map fun b => .mk 1 a b else none)
    else if k = 3 then (if t.kind = l then (endD (doOs r os t.kids [])).map fun b => .mk l [] b else none)
    else none).map (nrD r)
noncomputable def doKs (r : Bool) (tk : List Tree) : List (KidOf Edit) → List Tree → Option (List Tree)
  | [], out => some out
  | k :: s, out => (doKid r tk k).bind fun u => doKs r tk s (setPad Tree.nil out k.at_.toNat u)
noncomputable def doKid (r : Bool) (tk : List Tree) : KidOf Edit → Option Tree
  | ⟨a, e⟩ => doE r e (tk.getD a.toNat Tree.nil)
noncomputable def doOs (r : Bool) : List (OpOf Edit) → List Tree → List Tree → Option (List Tree × List Tree)
  | [], rest, out => some (out, rest)
  | o :: s, rest, out => (doOp r o rest out).bind fun x => doOs r s x.2 x.1
noncomputable def doOp (r : Bool) : OpOf Edit → List Tree → List Tree → Option (List Tree × List Tree)
  | ⟨k, n, l, e⟩, rest, out =>
    if k = 0 then (if n.toNat ≤ rest.length then some (out ++ rest.take n.toNat, rest.drop n.toNat) else none)
    else if k = 1 then (if goneD l rest = true then some (out, rest.drop l.length) else none)
    else if k = 2 then some (out ++ l, rest)
    else if rest.length = 0 then none else (doE r e (rest.getD 0 Tree.nil)).map fun u => (out ++ [u], rest.drop 1)
end
theorem doE_at (r : Bool) (e : Edit) (t : Tree) : doE r e t = (if e.kind = 0 then some t
    else if e.kind = 1 then (if sameT (normT e.old) (normT t) = true then some e.new else none)
    else if e.kind = 2 then (if t.kind = 1 then (wsD t.words e.words t.words).bind fun a => (doKs r t.kids e.kids t.kids).map fun b => .mk 1 a b else none)
    else if e.kind = 3 then (if t.kind = e.list then (endD (doOs r e.ops t.kids [])).map fun b => .mk e.list [] b else none)
    else none).map (nrD r) := by cases e; rfl
noncomputable def rawE (r : Bool) (e : Edit) (t : Tree) : Option Tree :=
  if e.kind = 0 then some t
  else if e.kind = 1 then (if sameT (normT e.old) (normT t) = true then some e.new else none)
  else if e.kind = 2 then (if t.kind = 1 then (wsD t.words e.words t.words).bind fun a => (doKs r t.kids e.kids t.kids).map fun b => .mk 1 a b else none)
  else if e.kind = 3 then (if t.kind = e.list then (endD (doOs r e.ops t.kids [])).map fun b => .mk e.list [] b else none)
  else none
theorem doE_raw (r : Bool) (e : Edit) (t : Tree) : doE r e t = (rawE r e t).map (nrD r) := doE_at r e t
theorem doKid_at (r : Bool) (tk : List Tree) (k : Kid) : doKid r tk k = doE r k.e (tk.getD k.at_.toNat Tree.nil) := by cases k; rfl
theorem doOp_at (r : Bool) (o : Op) (rest out : List Tree) : doOp r o rest out = if o.kind = 0 then (if o.n.toNat ≤ rest.length then some (out ++ rest.take o.n.toNat, rest.drop o.n.toNat) else none)
    else if o.kind = 1 then (if goneD o.l rest = true then some (out, rest.drop o.l.length) else none)
    else if o.kind = 2 then some (out ++ o.l, rest)
    else if rest.length = 0 then none else (doE r o.e (rest.getD 0 Tree.nil)).map fun u => (out ++ [u], rest.drop 1) := by cases o; rfl
noncomputable def strD (r : Bool) (e : Edit) (t : Tree) : Option Tree :=
  if t.kind = 1 then (wsD t.words e.words t.words).bind fun a => (doKs r t.kids e.kids t.kids).map fun b => .mk 1 a b else none
noncomputable def lstD (r : Bool) (e : Edit) (t : Tree) : Option (List Tree × List Tree) := if t.kind = e.list then doOs r e.ops t.kids [] else none
def orNil (o : Option Tree) : Tree := o.getD Tree.nil
def lstT (e : Edit) (o : Option (List Tree × List Tree)) : Tree := match o with | some x => .mk e.list [] x.1 | none => Tree.nil
noncomputable def oneT (e : Edit) (t : Tree) : Tree :=
  if e.kind = 0 then t else if e.kind = 1 then e.new else if e.kind = 2 then orNil (strD false e t) else if e.kind = 3 then lstT e (lstD false e t) else Tree.nil
theorem nrD_false (o : Option Tree) : o.map (nrD false) = o := by cases o <;> rfl
theorem oneT_some {e : Edit} {t u : Tree} (h : doE false e t = some u) : oneT e t = u := by
  rw [doE_at, nrD_false] at h
  unfold oneT
  split
  · rename_i h0; rw [if_pos h0] at h; exact Option.some.inj h
  · rename_i h0; rw [if_neg h0] at h
    split
    · rename_i h1; rw [if_pos h1] at h
      split at h
      · exact Option.some.inj h
      · cases h
    · rename_i h1; rw [if_neg h1] at h
      split
      · rename_i h2; rw [if_pos h2] at h
        unfold orNil strD
        rw [h]; rfl
      · rename_i h2; rw [if_neg h2] at h
        split
        · rename_i h3; rw [if_pos h3] at h
          unfold lstT lstD
          split at h
          · rename_i h4; rw [if_pos h4]
            revert h
            cases doOs false e.ops t.kids [] with
            | none => intro h; cases h
            | some x =>
              intro h
              simp only [endD, Option.bind_some] at h
              split at h
              · exact Option.some.inj h
              · cases h
          · cases h
        · rename_i h3; rw [if_neg h3] at h; cases h
end Go.AM

namespace Go.AM
def goodT (t : Tree) : Bool := decide (0 ≤ shallow t 80 3000) && rightT t 64 && decide (t.kind ≠ 10)
end Go.AM

namespace Go.AM.Ytlahjnelghpmeaa
open Go.AM Go.Proofs
noncomputable section
def args79 : ArgL (Edit × Unit) := (.cons (aEl .edit) .nil)
def pre79 (a : Edit × Unit) : Prop := massE a.1 ≤ 1000000
def mu79 (a : Edit × Unit) : Nat := 2 * massE a.1
noncomputable def res79 (a : Edit × Unit) : V U := .agg [.int .i64 (Edit.kind (turnE a.1)), .int .i64 (Tree.kind (Edit.old (turnE a.1))), .slice (U := U) .u64 (Tree.words (Edit.old (turnE a.1))) .unk, .slice (U := U) .tree (Tree.kids (Edit.old (turnE a.1))) .unk, .int .i64 (Tree.kind (Edit.new (turnE a.1))), .slice (U := U) .u64 (Tree.words (Edit.new (turnE a.1))) .unk, .slice (U := U) .tree (Tree.kids (Edit.new (turnE a.1))) .unk, .slice (U := U) .wedit (Edit.words (turnE a.1)) .unk, .slice (U := U) .kid (Edit.kids (turnE a.1)) .unk, .int .i64 (Edit.list (turnE a.1)), .slice (U := U) .op (Edit.ops (turnE a.1)) .unk]
noncomputable def spec79 : Fs U := fs args79 (fun a => [pre79 a]) res79
def args110 : ArgL (Op × Unit) := (.cons (aEl .op) .nil)
def pre110 (a : Op × Unit) : Prop := massOp a.1 ≤ 1000000
def mu110 (a : Op × Unit) : Nat := 2 * massOp a.1 + 1
noncomputable def res110 (a : Op × Unit) : V U := .agg [.int .i64 (OpOf.kind (turnOp a.1)), .int .i64 (OpOf.n (turnOp a.1)), .slice (U := U) .tree (OpOf.l (turnOp a.1)) .unk, .int .i64 (Edit.kind (OpOf.e (turnOp a.1))), .int .i64 (Tree.kind (Edit.old (OpOf.e (turnOp a.1)))), .slice (U := U) .u64 (Tree.words (Edit.old (OpOf.e (turnOp a.1)))) .unk, .slice (U := U) .tree (Tree.kids (Edit.old (OpOf.e (turnOp a.1)))) .unk, .int .i64 (Tree.kind (Edit.new (OpOf.e (turnOp a.1)))), .slice (U := U) .u64 (Tree.words (Edit.new (OpOf.e (turnOp a.1)))) .unk, .slice (U := U) .tree (Tree.kids (Edit.new (OpOf.e (turnOp a.1)))) .unk, .slice (U := U) .wedit (Edit.words (OpOf.e (turnOp a.1))) .unk, .slice (U := U) .kid (Edit.kids (OpOf.e (turnOp a.1))) .unk, .int .i64 (Edit.list (OpOf.e (turnOp a.1))), .slice (U := U) .op (Edit.ops (OpOf.e (turnOp a.1))) .unk]
noncomputable def spec110 : Fs U := fs args110 (fun a => [pre110 a]) res110
noncomputable def know79 (N : Nat) : List (FuncId × Fs U) := (79, fs args79 (fun a => [pre79 a, mu79 a < N]) res79) :: (110, fs args110 (fun a => [pre110 a, mu110 a < N]) res110) :: []
def lv79 : Lives U := fun i => match i with
  | 0 => ([(1, []), (2, [])], [((.loc 1), []), ((.loc 2), [])])
  | 1 => ([(1, []), (2, []), (3, [])], [((.loc 1), []), ((.loc 2), []), ((.loc 3), [])])
  | 2 => ([(1, []), (2, []), (3, []), (20, []), (21, []), (22, [])], [((.loc 1), []), ((.loc 2), []), ((.loc 3), [.any, .any, .any, .any, .any, .any, .any, .own .wedit])])
  | 3 => ([(1, []), (2, []), (3, []), (20, []), (21, []), (22, []), (23, [])], [((.loc 1), []), ((.loc 2), []), ((.loc 3), [])])
  | 4 => ([(1, []), (2, []), (3, []), (5, []), (20, []), (21, []), (22, [])], [((.loc 1), []), ((.loc 2), []), ((.loc 3), []), ((.loc 5), [])])
  | 5 => ([(1, []), (2, []), (3, []), (20, []), (21, []), (22, [])], [((.loc 1), []), ((.loc 2), []), ((.loc 3), [])])
  | 6 => ([(1, []), (2, []), (3, []), (20, []), (21, []), (22, [])], [((.loc 1), []), ((.loc 2), []), ((.loc 3), [.any, .any, .any, .any, .any, .any, .any, .own .wedit])])
  | 7 => ([(1, []), (2, []), (3, []), (42, []), (43, []), (44, [])], [((.loc 1), []), ((.loc 2), []), ((.loc 3), [.any, .any, .any, .any, .any, .any, .any, .any, .own .kid])])
  | 8 => ([(1, []), (2, []), (3, []), (42, []), (43, []), (44, []), (45, [])], [((.loc 1), []), ((.loc 2), []), ((.loc 3), [])])
  | 9 => ([(1, []), (2, []), (3, []), (7, []), (42, []), (43, []), (44, [])], [((.loc 1), []), ((.loc 2), []), ((.loc 3), []), ((.loc 7), [])])
  | 10 => ([(1, []), (2, []), (3, []), (42, []), (43, []), (44, [])], [((.loc 1), []), ((.loc 2), []), ((.loc 3), [])])
  | 11 => ([(1, []), (2, []), (3, []), (42, []), (43, []), (44, [])], [((.loc 1), []), ((.loc 2), []), ((.loc 3), [.any, .any, .any, .any, .any, .any, .any, .any, .own .kid])])
  | 12 => ([(2, []), (3, []), (61, []), (62, []), (63, [])], [((.loc 2), []), ((.loc 3), [.any, .any, .any, .any, .any, .any, .any, .any, .any, .any, .own .op])])
  | 13 => ([(2, []), (3, []), (61, []), (62, []), (63, []), (64, [])], [((.loc 2), []), ((.loc 3), [])])
  | 14 => ([(2, []), (3, []), (9, []), (61, []), (62, []), (63, [])], [((.loc 2), []), ((.loc 3), []), ((.loc 9), [])])
  | 15 => ([(2, []), (3, []), (61, []), (62, []), (63, [])], [((.loc 2), []), ((.loc 3), [])])
  | 16 => ([(2, []), (3, []), (61, []), (62, []), (63, [])], [((.loc 2), []), ((.loc 3), [.any, .any, .any, .any, .any, .any, .any, .any, .any, .any, .own .op])])
  | 17 => ([(2, [])], [((.loc 2), [])])
  | _ => ([], [])
def head79_0 (e : Edit) (x22 : Int) (ml3_7 : List WEdit) : LSt U := (⟨[(1, .ptr (.loc 1) 0), (2, .ptr (.loc 2) 0), (3, .ptr (.loc 3) 0), (20, .c (.slice (U := U) .wedit (Edit.words e) .unk)), (21, .c (.int .i64 ((Edit.words e).length : Int))), (22, .c (.int .i64 x22))], [((.loc 1), [.int .i64 (Edit.kind e), .int .i64 (Tree.kind (Edit.old e)), .slice (U := U) .u64 (Tree.words (Edit.old e)) .unk, .slice (U := U) .tree (Tree.kids (Edit.old e)) .unk, .int .i64 (Tree.kind (Edit.new e)), .slice (U := U) .u64 (Tree.words (Edit.new e)) .unk, .slice (U := U) .tree (Tree.kids (Edit.new e)) .unk, .slice (U := U) .wedit (Edit.words e) .unk, .slice (U := U) .kid (Edit.kids e) .unk, .int .i64 (Edit.list e), .slice (U := U) .op (Edit.ops e) .unk]), ((.loc 2), [.int .i64 0, .int .i64 0, .nils, .nils, .int .i64 0, .nils, .nils, .nils, .nils, .int .i64 0, .nils]), ((.loc 3), [.int .i64 (Edit.kind e), .int .i64 (Tree.kind (Edit.new e)), .slice (U := U) .u64 (Tree.words (Edit.new e)) .unk, .slice (U := U) .tree (Tree.kids (Edit.new e)) .unk, .int .i64 (Tree.kind (Edit.old e)), .slice (U := U) .u64 (Tree.words (Edit.old e)) .unk, .slice (U := U) .tree (Tree.kids (Edit.old e)) .unk, .slice (U := U) .wedit ml3_7 (.own (.l 3 7)), .nils, .int .i64 (Edit.list e), .nils])], []⟩ : LSt U)
def head79_1 (e : Edit) (ml3_7 : List WEdit) (x44_a : Int) (ml3_8_a : List Kid) : LSt U := (⟨[(1, .ptr (.loc 1) 0), (2, .ptr (.loc 2) 0), (3, .ptr (.loc 3) 0), (42, .c (.slice (U := U) .kid (Edit.kids e) .unk)), (43, .c (.int .i64 ((Edit.kids e).length : Int))), (44, .c (.int .i64 x44_a))], [((.loc 1), [.int .i64 (Edit.kind e), .int .i64 (Tree.kind (Edit.old e)), .slice (U := U) .u64 (Tree.words (Edit.old e)) .unk, .slice (U := U) .tree (Tree.kids (Edit.old e)) .unk, .int .i64 (Tree.kind (Edit.new e)), .slice (U := U) .u64 (Tree.words (Edit.new e)) .unk, .slice (U := U) .tree (Tree.kids (Edit.new e)) .unk, .slice (U := U) .wedit (Edit.words e) .unk, .slice (U := U) .kid (Edit.kids e) .unk, .int .i64 (Edit.list e), .slice (U := U) .op (Edit.ops e) .unk]), ((.loc 2), [.int .i64 0, .int .i64 0, .nils, .nils, .int .i64 0, .nils, .nils, .nils, .nils, .int .i64 0, .nils]), ((.loc 3), [.int .i64 (Edit.kind e), .int .i64 (Tree.kind (Edit.new e)), .slice (U := U) .u64 (Tree.words (Edit.new e)) .unk, .slice (U := U) .tree (Tree.kids (Edit.new e)) .unk, .int .i64 (Tree.kind (Edit.old e)), .slice (U := U) .u64 (Tree.words (Edit.old e)) .unk, .slice (U := U) .tree (Tree.kids (Edit.old e)) .unk, .slice (U := U) .wedit ml3_7 (.own (.l 3 7)), .slice (U := U) .kid ml3_8_a (.own (.l 3 8)), .int .i64 (Edit.list e), .nils])], []⟩ : LSt U)
def head79_2 (e : Edit) (ml3_7 : List WEdit) (ml3_8_a : List Kid) (x63_b : Int) (ml3_10_b : List Op) : LSt U := (⟨[(2, .ptr (.loc 2) 0), (3, .ptr (.loc 3) 0), (61, .c (.slice (U := U) .op (Edit.ops e) .unk)), (62, .c (.int .i64 ((Edit.ops e).length : Int))), (63, .c (.int .i64 x63_b))], [((.loc 2), [.int .i64 0, .int .i64 0, .nils, .nils, .int .i64 0, .nils, .nils, .nils, .nils, .int .i64 0, .nils]), ((.loc 3), [.int .i64 (Edit.kind e), .int .i64 (Tree.kind (Edit.new e)), .slice (U := U) .u64 (Tree.words (Edit.new e)) .unk, .slice (U := U) .tree (Tree.kids (Edit.new e)) .unk, .int .i64 (Tree.kind (Edit.old e)), .slice (U := U) .u64 (Tree.words (Edit.old e)) .unk, .slice (U := U) .tree (Tree.kids (Edit.old e)) .unk, .slice (U := U) .wedit ml3_7 (.own (.l 3 7)), .slice (U := U) .kid ml3_8_a (.own (.l 3 8)), .int .i64 (Edit.list e), .slice (U := U) .op ml3_10_b (.own (.l 3 10))])], []⟩ : LSt U)
abbrev W79 (N : Nat) (e : Edit) (Q : AExit → LSt U → Prop) := awp cfg (know (know79 N)) (drawOk cfg (know (know79 N))) Try.f79.ntmps lv79 (cd Try.f79 []) (⟨[(0, .agg [.int .i64 (Edit.kind e), .int .i64 (Tree.kind (Edit.old e)), .slice (U := U) .u64 (Tree.words (Edit.old e)) .unk, .slice (U := U) .tree (Tree.kids (Edit.old e)) .unk, .int .i64 (Tree.kind (Edit.new e)), .slice (U := U) .u64 (Tree.words (Edit.new e)) .unk, .slice (U := U) .tree (Tree.kids (Edit.new e)) .unk, .slice (U := U) .wedit (Edit.words e) .unk, .slice (U := U) .kid (Edit.kids e) .unk, .int .i64 (Edit.list e), .slice (U := U) .op (Edit.ops e) .unk])], [], []⟩ : LSt U) Q
abbrev a79_G22a (N : Nat) := awp cfg (know (know79 N)) (drawOk cfg (know (know79 N))) Try.f79.ntmps lv79
abbrev s79_G22a (N : Nat) := seqK cfg (know (know79 N)) (drawOk cfg (know (know79 N))) Try.f79.ntmps lv79
theorem vc79 (N : Nat) (e : Edit) (Q : AExit → LSt U → Prop) (h : LoopWp (awp cfg (know (know79 N)) (drawOk cfg (know (know79 N))) Try.f79.ntmps lv79 (cd Try.f79 [1, 1, 0, 1, 0, 0])) (head79_0 e 0 ([])) (AExit.inBlock 0 (seqK cfg (know (know79 N)) (drawOk cfg (know (know79 N))) Try.f79.ntmps lv79 (cd Try.f79 [1, 1, 1]) Q))) :
    W79 N e Q := by
  have e_ : (W79 N e Q) = ((((LoopWp (a79_G22a N (cd Try.f79 [1, 1, 0, 1, 0, 0])) (head79_0 e 0 ([])) (AExit.inBlock 0 (s79_G22a N (cd Try.f79 [1, 1, 1]) Q)))))) := by kernel_rfl
  exact e_.mpr h
abbrev W79_l0 (N : Nat) (e : Edit) (x22 : Int) (ml3_7 : List WEdit) (N0 : LSt U → Prop) (Q : AExit → LSt U → Prop) := awp cfg (know (know79 N)) (drawOk cfg (know (know79 N))) Try.f79.ntmps lv79 (cd Try.f79 [1, 1, 0, 1, 0, 0]) (head79_0 e x22 ml3_7) (AExit.then N0 (AExit.inBlock 0 (seqK cfg (know (know79 N)) (drawOk cfg (know (know79 N))) Try.f79.ntmps lv79 (cd Try.f79 [1, 1, 1]) Q)))
theorem vc79_l0 (N : Nat) (e : Edit) (x22 : Int) (ml3_7 : List WEdit) (N0 : LSt U → Prop) (Q : AExit → LSt U → Prop) (h : ((decide ((x22 : Int) < ((Edit.words e).length : Int))) = true → ((0 : Int) ≤ x22 ∧ x22 < ((Edit.words e).length : Int)) ∧ (((ml3_7.length + ([(WEdit.mk (WEdit.at_ (List.getD (Edit.words e) (Int.toNat x22) (WEdit.mk 0 0 0 0))) (WEdit.mask (List.getD (Edit.words e) (Int.toNat x22) (WEdit.mk 0 0 0 0))) (WEdit.new (List.getD (Edit.words e) (Int.toNat x22) (WEdit.mk 0 0 0 0))) (WEdit.old (List.getD (Edit.words e) (Int.toNat x22) (WEdit.mk 0 0 0 0))))]).length) * 32 ≤ 140737488355328) ∧ ((InR ((x22 : Int) + 1)) ∧ (N0 (head79_0 e ((x22 : Int) + 1) (ml3_7 ++ ([(WEdit.mk (WEdit.at_ (List.getD (Edit.words e) (Int.toNat x22) (WEdit.mk 0 0 0 0))) (WEdit.mask (List.getD (Edit.words e) (Int.toNat x22) (WEdit.mk 0 0 0 0))) (WEdit.new (List.getD (Edit.words e) (Int.toNat x22) (WEdit.mk 0 0 0 0))) (WEdit.old (List.getD (Edit.words e) (Int.toNat x22) (WEdit.mk 0 0 0 0))))]))))))) ∧ ((decide ((x22 : Int) < ((Edit.words e).length : Int))) = false → LoopWp (awp cfg (know (know79 N)) (drawOk cfg (know (know79 N))) Try.f79.ntmps lv79 (cd Try.f79 [1, 1, 1, 0, 1, 0, 0])) (head79_1 e ml3_7 0 ([])) (AExit.inBlock 2 (seqK cfg (know (know79 N)) (drawOk cfg (know (know79 N))) Try.f79.ntmps lv79 (cd Try.f79 [1, 1, 1, 1]) Q)))) :
    W79_l0 N e x22 ml3_7 N0 Q := by
  have e_ : (W79_l0 N e x22 ml3_7 N0 Q) = (let zz0 := (decide ((x22 : Int) < ((Edit.words e).length : Int))); ((zz0 = true → ((0 : Int) ≤ x22 ∧ x22 < ((Edit.words e).length : Int)) ∧ (((ml3_7.length + ([(WEdit.mk (WEdit.at_ (List.getD (Edit.words e) (Int.toNat x22) (WEdit.mk 0 0 0 0))) (WEdit.mask (List.getD (Edit.words e) (Int.toNat x22) (WEdit.mk 0 0 0 0))) (WEdit.new (List.getD (Edit.words e) (Int.toNat x22) (WEdit.mk 0 0 0 0))) (WEdit.old (List.getD (Edit.words e) (Int.toNat x22) (WEdit.mk 0 0 0 0))))]).length) * 32 ≤ 140737488355328) ∧ ((InR ((x22 : Int) + 1)) ∧ (N0 (head79_0 e ((x22 : Int) + 1) (ml3_7 ++ ([(WEdit.mk (WEdit.at_ (List.getD (Edit.words e) (Int.toNat x22) (WEdit.mk 0 0 0 0))) (WEdit.mask (List.getD (Edit.words e) (Int.toNat x22) (WEdit.mk 0 0 0 0))) (WEdit.new (List.getD (Edit.words e) (Int.toNat x22) (WEdit.mk 0 0 0 0))) (WEdit.old (List.getD (Edit.words e) (Int.toNat x22) (WEdit.mk 0 0 0 0))))]))))))) ∧ (zz0 = false → (LoopWp (a79_G22a N (cd Try.f79 [1, 1, 1, 0, 1, 0, 0])) (head79_1 e ml3_7 0 ([])) (AExit.inBlock 2 (s79_G22a N (cd Try.f79 [1, 1, 1, 1]) Q)))))) := by kernel_rfl
  exact e_.mpr ⟨fun c_7 => ⟨(h.1 c_7).1, ⟨(h.1 c_7).2.1, ⟨(h.1 c_7).2.2.1, (h.1 c_7).2.2.2⟩⟩⟩, fun c_7 => (h.2 c_7)⟩
abbrev W79_l1 (N : Nat) (e : Edit) (ml3_7 : List WEdit) (x44_a : Int) (ml3_8_a : List Kid) (N1 : LSt U → Prop) (Q : AExit → LSt U → Prop) := awp cfg (know (know79 N)) (drawOk cfg (know (know79 N))) Try.f79.ntmps lv79 (cd Try.f79 [1, 1, 1, 0, 1, 0, 0]) (head79_1 e ml3_7 x44_a ml3_8_a) (AExit.then N1 (AExit.inBlock 2 (seqK cfg (know (know79 N)) (drawOk cfg (know (know79 N))) Try.f79.ntmps lv79 (cd Try.f79 [1, 1, 1, 1]) Q)))
theorem vc79_l1 (N : Nat) (e : Edit) (ml3_7 : List WEdit) (x44_a : Int) (ml3_8_a : List Kid) (N1 : LSt U → Prop) (Q : AExit → LSt U → Prop) (h : ∀ y_1, y_1 = (List.getD (Edit.kids e) (Int.toNat x44_a) (KidOf.mk 0 Edit.nil)) → ∀ y_2, y_2 = ((KidOf.e y_1)) → ∀ y_3, y_3 = ((turnE y_2)) → ((decide ((x44_a : Int) < ((Edit.kids e).length : Int))) = true → ((0 : Int) ≤ x44_a ∧ x44_a < ((Edit.kids e).length : Int)) ∧ ((pre79 (y_2, ())) ∧ (mu79 (y_2, ()) < N) ∧ ((ml3_8_a.length + ([(KidOf.mk (KidOf.at_ y_1) y_3 : Kid)]).length) * 208 ≤ 140737488355328) ∧ ((InR ((x44_a : Int) + 1)) ∧ (N1 (head79_1 e ml3_7 ((x44_a : Int) + 1) (ml3_8_a ++ ([(KidOf.mk (KidOf.at_ y_1) y_3 : Kid)]))))))) ∧ ((decide ((x44_a : Int) < ((Edit.kids e).length : Int))) = false → LoopWp (awp cfg (know (know79 N)) (drawOk cfg (know (know79 N))) Try.f79.ntmps lv79 (cd Try.f79 [1, 1, 1, 1, 0, 1, 0, 0])) (head79_2 e ml3_7 ml3_8_a 0 ([])) (AExit.inBlock 4 (seqK cfg (know (know79 N)) (drawOk cfg (know (know79 N))) Try.f79.ntmps lv79 (cd Try.f79 [1, 1, 1, 1, 1]) Q)))) :
    W79_l1 N e ml3_7 x44_a ml3_8_a N1 Q := by
  have e_ : (W79_l1 N e ml3_7 x44_a ml3_8_a N1 Q) = (let y_1 := (List.getD (Edit.kids e) (Int.toNat x44_a) (KidOf.mk 0 Edit.nil)); let y_2 := (reEdit (KidOf.e y_1)); let y_3 := (reEdit (turnE y_2)); let zz0 := (decide ((x44_a : Int) < ((Edit.kids e).length : Int))); ((zz0 = true → ((0 : Int) ≤ x44_a ∧ x44_a < ((Edit.kids e).length : Int)) ∧ ((pre79 (y_2, ())) ∧ (mu79 (y_2, ()) < N) ∧ ((ml3_8_a.length + ([(KidOf.mk (KidOf.at_ y_1) y_3 : Kid)]).length) * 208 ≤ 140737488355328) ∧ ((InR ((x44_a : Int) + 1)) ∧ (N1 (head79_1 e ml3_7 ((x44_a : Int) + 1) (ml3_8_a ++ ([(KidOf.mk (KidOf.at_ y_1) y_3 : Kid)]))))))) ∧ (zz0 = false → (LoopWp (a79_G22a N (cd Try.f79 [1, 1, 1, 1, 0, 1, 0, 0])) (head79_2 e ml3_7 ml3_8_a 0 ([])) (AExit.inBlock 4 (s79_G22a N (cd Try.f79 [1, 1, 1, 1, 1]) Q)))))) := by kernel_rfl
  exact e_.mpr (by intro y_1 y_2 y_3; have hh := h y_1 rfl y_2 (reEdit_eq _) y_3 (reEdit_eq _); exact ⟨fun c_8 => ⟨(hh.1 c_8).1, ⟨(hh.1 c_8).2.1, (hh.1 c_8).2.2.1, (hh.1 c_8).2.2.2.1, ⟨(hh.1 c_8).2.2.2.2.1, (hh.1 c_8).2.2.2.2.2⟩⟩⟩, fun c_8 => (hh.2 c_8)⟩)
abbrev W79_l2 (N : Nat) (e : Edit) (ml3_7 : List WEdit) (ml3_8_a : List Kid) (x63_b : Int) (ml3_10_b : List Op) (N2 : LSt U → Prop) (Q : AExit → LSt U → Prop) := awp cfg (know (know79 N)) (drawOk cfg (know (know79 N))) Try.f79.ntmps lv79 (cd Try.f79 [1, 1, 1, 1, 0, 1, 0, 0]) (head79_2 e ml3_7 ml3_8_a x63_b ml3_10_b) (AExit.then N2 (AExit.inBlock 4 (seqK cfg (know (know79 N)) (drawOk cfg (know (know79 N))) Try.f79.ntmps lv79 (cd Try.f79 [1, 1, 1, 1, 1]) Q)))
theorem vc79_l2 (N : Nat) (e : Edit) (ml3_7 : List WEdit) (ml3_8_a : List Kid) (x63_b : Int) (ml3_10_b : List Op) (N2 : LSt U → Prop) (Q : AExit → LSt U → Prop) (h : ∀ y_1, y_1 = (List.getD (Edit.ops e) (Int.toNat x63_b) Op.nil) → ∀ y_2, y_2 = (y_1) → ∀ y_3, y_3 = ((turnOp y_2)) → ((decide ((x63_b : Int) < ((Edit.ops e).length : Int))) = true → ((0 : Int) ≤ x63_b ∧ x63_b < ((Edit.ops e).length : Int)) ∧ ((pre110 (y_2, ())) ∧ (mu110 (y_2, ()) < N) ∧ ((ml3_10_b.length + ([y_3]).length) * 240 ≤ 140737488355328) ∧ ((InR ((x63_b : Int) + 1)) ∧ (N2 (head79_2 e ml3_7 ml3_8_a ((x63_b : Int) + 1) (ml3_10_b ++ ([y_3]))))))) ∧ ((decide ((x63_b : Int) < ((Edit.ops e).length : Int))) = false → Q .ret (⟨[(2, .ptr (.loc 2) 0)], [((.loc 2), [.int .i64 (Edit.kind e), .int .i64 (Tree.kind (Edit.new e)), .slice (U := U) .u64 (Tree.words (Edit.new e)) .unk, .slice (U := U) .tree (Tree.kids (Edit.new e)) .unk, .int .i64 (Tree.kind (Edit.old e)), .slice (U := U) .u64 (Tree.words (Edit.old e)) .unk, .slice (U := U) .tree (Tree.kids (Edit.old e)) .unk, .slice (U := U) .wedit ml3_7 (.own (.l 2 7)), .slice (U := U) .kid ml3_8_a (.own (.l 2 8)), .int .i64 (Edit.list e), .slice (U := U) .op ml3_10_b (.own (.l 2 10))])], []⟩ : LSt U))) :
    W79_l2 N e ml3_7 ml3_8_a x63_b ml3_10_b N2 Q := by
  have e_ : (W79_l2 N e ml3_7 ml3_8_a x63_b ml3_10_b N2 Q) = (let y_1 := (List.getD (Edit.ops e) (Int.toNat x63_b) Op.nil); let y_2 := (reOp y_1); let y_3 := (reOp (turnOp y_2)); let zz0 := (decide ((x63_b : Int) < ((Edit.ops e).length : Int))); ((zz0 = true → ((0 : Int) ≤ x63_b ∧ x63_b < ((Edit.ops e).length : Int)) ∧ ((pre110 (y_2, ())) ∧ (mu110 (y_2, ()) < N) ∧ ((ml3_10_b.length + ([y_3]).length) * 240 ≤ 140737488355328) ∧ ((InR ((x63_b : Int) + 1)) ∧ (N2 (head79_2 e ml3_7 ml3_8_a ((x63_b : Int) + 1) (ml3_10_b ++ ([y_3]))))))) ∧ (zz0 = false → (Q .ret (⟨[(2, .ptr (.loc 2) 0)], [((.loc 2), [.int .i64 (Edit.kind e), .int .i64 (Tree.kind (Edit.new e)), .slice (U := U) .u64 (Tree.words (Edit.new e)) .unk, .slice (U := U) .tree (Tree.kids (Edit.new e)) .unk, .int .i64 (Tree.kind (Edit.old e)), .slice (U := U) .u64 (Tree.words (Edit.old e)) .unk, .slice (U := U) .tree (Tree.kids (Edit.old e)) .unk, .slice (U := U) .wedit ml3_7 (.own (.l 2 7)), .slice (U := U) .kid ml3_8_a (.own (.l 2 8)), .int .i64 (Edit.list e), .slice (U := U) .op ml3_10_b (.own (.l 2 10))])], []⟩ : LSt U))))) := by kernel_rfl
  exact e_.mpr (by intro y_1 y_2 y_3; have hh := h y_1 rfl y_2 (reOp_eq _) y_3 (reOp_eq _); exact ⟨fun c_9 => ⟨(hh.1 c_9).1, ⟨(hh.1 c_9).2.1, (hh.1 c_9).2.2.1, (hh.1 c_9).2.2.2.1, ⟨(hh.1 c_9).2.2.2.2.1, (hh.1 c_9).2.2.2.2.2⟩⟩⟩, fun c_9 => (hh.2 c_9)⟩)
def Body79 (N : Nat) (e : Edit)  : Prop := awp cfg (know (know79 N)) (drawOk cfg (know (know79 N))) Try.f79.ntmps lv79 (cd Try.f79 []) (entry (args79.can (e, ())) []) (EndsQ cfg Try.f79.ntmps Try.f79.results.toList (res79 (e, ())) [])
abbrev HB79 : Prop := ∀ (N : Nat) (e : Edit) (_ : Unit), pre79 (e, ()) → mu79 (e, ()) < N + 1 → Body79 N e
noncomputable def know110 (N : Nat) : List (FuncId × Fs U) := (79, fs args79 (fun a => [pre79 a, mu79 a < N]) res79) :: (110, fs args110 (fun a => [pre110 a, mu110 a < N]) res110) :: []
def lv110 : Lives U := fun i => match i with
  | 0 => ([(1, []), (2, [])], [((.loc 1), []), ((.loc 2), [])])
  | 1 => ([(1, []), (2, []), (4, [])], [((.loc 1), []), ((.loc 2), [])])
  | 2 => ([(1, []), (2, []), (4, []), (5, [])], [((.loc 1), []), ((.loc 2), [])])
  | 3 => ([(1, []), (2, [])], [((.loc 1), []), ((.loc 2), [])])
  | 4 => ([(1, []), (2, []), (4, []), (8, [])], [((.loc 1), []), ((.loc 2), [])])
  | 5 => ([(1, []), (2, [])], [((.loc 1), []), ((.loc 2), [])])
  | 6 => ([(1, []), (2, []), (11, [])], [((.loc 1), []), ((.loc 2), [])])
  | 7 => ([(1, []), (2, [])], [((.loc 1), []), ((.loc 2), [])])
  | 8 => ([(2, [])], [((.loc 2), [])])
  | _ => ([], [])
abbrev W110 (N : Nat) (o : Op) (Q : AExit → LSt U → Prop) := awp cfg (know (know110 N)) (drawOk cfg (know (know110 N))) Try.f110.ntmps lv110 (cd Try.f110 []) (⟨[(0, .agg [.int .i64 (OpOf.kind o), .int .i64 (OpOf.n o), .slice (U := U) .tree (OpOf.l o) .unk, .int .i64 (Edit.kind (OpOf.e o)), .int .i64 (Tree.kind (Edit.old (OpOf.e o))), .slice (U := U) .u64 (Tree.words (Edit.old (OpOf.e o))) .unk, .slice (U := U) .tree (Tree.kids (Edit.old (OpOf.e o))) .unk, .int .i64 (Tree.kind (Edit.new (OpOf.e o))), .slice (U := U) .u64 (Tree.words (Edit.new (OpOf.e o))) .unk, .slice (U := U) .tree (Tree.kids (Edit.new (OpOf.e o))) .unk, .slice (U := U) .wedit (Edit.words (OpOf.e o)) .unk, .slice (U := U) .kid (Edit.kids (OpOf.e o)) .unk, .int .i64 (Edit.list (OpOf.e o)), .slice (U := U) .op (Edit.ops (OpOf.e o)) .unk])], [], []⟩ : LSt U) Q
theorem vc110 (N : Nat) (o : Op) (Q : AExit → LSt U → Prop) (h : ∀ y_1, y_1 = ((OpOf.e o)) → ((((OpOf.kind o) : Int) == 1) = true → Q .ret (⟨[(2, .ptr (.loc 2) 0)], [((.loc 2), [.int .i64 2, .int .i64 (OpOf.n o), .slice (U := U) .tree (OpOf.l o) .unk, .int .i64 (Edit.kind (OpOf.e o)), .int .i64 (Tree.kind (Edit.old (OpOf.e o))), .slice (U := U) .u64 (Tree.words (Edit.old (OpOf.e o))) .unk, .slice (U := U) .tree (Tree.kids (Edit.old (OpOf.e o))) .unk, .int .i64 (Tree.kind (Edit.new (OpOf.e o))), .slice (U := U) .u64 (Tree.words (Edit.new (OpOf.e o))) .unk, .slice (U := U) .tree (Tree.kids (Edit.new (OpOf.e o))) .unk, .slice (U := U) .wedit (Edit.words (OpOf.e o)) .unk, .slice (U := U) .kid (Edit.kids (OpOf.e o)) .unk, .int .i64 (Edit.list (OpOf.e o)), .slice (U := U) .op (Edit.ops (OpOf.e o)) .unk])], []⟩ : LSt U)) ∧ ((((OpOf.kind o) : Int) == 1) = false → ((((OpOf.kind o) : Int) == 2) = true → Q .ret (⟨[(2, .ptr (.loc 2) 0)], [((.loc 2), [.int .i64 1, .int .i64 (OpOf.n o), .slice (U := U) .tree (OpOf.l o) .unk, .int .i64 (Edit.kind (OpOf.e o)), .int .i64 (Tree.kind (Edit.old (OpOf.e o))), .slice (U := U) .u64 (Tree.words (Edit.old (OpOf.e o))) .unk, .slice (U := U) .tree (Tree.kids (Edit.old (OpOf.e o))) .unk, .int .i64 (Tree.kind (Edit.new (OpOf.e o))), .slice (U := U) .u64 (Tree.words (Edit.new (OpOf.e o))) .unk, .slice (U := U) .tree (Tree.kids (Edit.new (OpOf.e o))) .unk, .slice (U := U) .wedit (Edit.words (OpOf.e o)) .unk, .slice (U := U) .kid (Edit.kids (OpOf.e o)) .unk, .int .i64 (Edit.list (OpOf.e o)), .slice (U := U) .op (Edit.ops (OpOf.e o)) .unk])], []⟩ : LSt U)) ∧ ((((OpOf.kind o) : Int) == 2) = false → ((((OpOf.kind o) : Int) == 3) = true → (pre79 (y_1, ())) ∧ (mu79 (y_1, ()) < N) ∧ (Q .ret (⟨[(2, .ptr (.loc 2) 0)], [((.loc 2), [.int .i64 (OpOf.kind o), .int .i64 (OpOf.n o), .slice (U := U) .tree (OpOf.l o) .unk, .int .i64 (Edit.kind (turnE y_1)), .int .i64 (Tree.kind (Edit.old (turnE y_1))), .slice (U := U) .u64 (Tree.words (Edit.old (turnE y_1))) .unk, .slice (U := U) .tree (Tree.kids (Edit.old (turnE y_1))) .unk, .int .i64 (Tree.kind (Edit.new (turnE y_1))), .slice (U := U) .u64 (Tree.words (Edit.new (turnE y_1))) .unk, .slice (U := U) .tree (Tree.kids (Edit.new (turnE y_1))) .unk, .slice (U := U) .wedit (Edit.words (turnE y_1)) .unk, .slice (U := U) .kid (Edit.kids (turnE y_1)) .unk, .int .i64 (Edit.list (turnE y_1)), .slice (U := U) .op (Edit.ops (turnE y_1)) .unk])], []⟩ : LSt U))) ∧ ((((OpOf.kind o) : Int) == 3) = false → Q .ret (⟨[(2, .ptr (.loc 2) 0)], [((.loc 2), [.int .i64 (OpOf.kind o), .int .i64 (OpOf.n o), .slice (U := U) .tree (OpOf.l o) .unk, .int .i64 (Edit.kind (OpOf.e o)), .int .i64 (Tree.kind (Edit.old (OpOf.e o))), .slice (U := U) .u64 (Tree.words (Edit.old (OpOf.e o))) .unk, .slice (U := U) .tree (Tree.kids (Edit.old (OpOf.e o))) .unk, .int .i64 (Tree.kind (Edit.new (OpOf.e o))), .slice (U := U) .u64 (Tree.words (Edit.new (OpOf.e o))) .unk, .slice (U := U) .tree (Tree.kids (Edit.new (OpOf.e o))) .unk, .slice (U := U) .wedit (Edit.words (OpOf.e o)) .unk, .slice (U := U) .kid (Edit.kids (OpOf.e o)) .unk, .int .i64 (Edit.list (OpOf.e o)), .slice (U := U) .op (Edit.ops (OpOf.e o)) .unk])], []⟩ : LSt U))))) :
    W110 N o Q := by
  have e_ : (W110 N o Q) = (let y_1 := (reEdit (OpOf.e o)); ((((((OpOf.kind o) == 1) = true → ((Q .ret (⟨[(2, .ptr (.loc 2) 0)], [((.loc 2), [.int .i64 2, .int .i64 (OpOf.n o), .slice (U := U) .tree (OpOf.l o) .unk, .int .i64 (Edit.kind (OpOf.e o)), .int .i64 (Tree.kind (Edit.old (OpOf.e o))), .slice (U := U) .u64 (Tree.words (Edit.old (OpOf.e o))) .unk, .slice (U := U) .tree (Tree.kids (Edit.old (OpOf.e o))) .unk, .int .i64 (Tree.kind (Edit.new (OpOf.e o))), .slice (U := U) .u64 (Tree.words (Edit.new (OpOf.e o))) .unk, .slice (U := U) .tree (Tree.kids (Edit.new (OpOf.e o))) .unk, .slice (U := U) .wedit (Edit.words (OpOf.e o)) .unk, .slice (U := U) .kid (Edit.kids (OpOf.e o)) .unk, .int .i64 (Edit.list (OpOf.e o)), .slice (U := U) .op (Edit.ops (OpOf.e o)) .unk])], []⟩ : LSt U)))) ∧ (((OpOf.kind o) == 1) = false → ((((OpOf.kind o) == 2) = true → ((Q .ret (⟨[(2, .ptr (.loc 2) 0)], [((.loc 2), [.int .i64 1, .int .i64 (OpOf.n o), .slice (U := U) .tree (OpOf.l o) .unk, .int .i64 (Edit.kind (OpOf.e o)), .int .i64 (Tree.kind (Edit.old (OpOf.e o))), .slice (U := U) .u64 (Tree.words (Edit.old (OpOf.e o))) .unk, .slice (U := U) .tree (Tree.kids (Edit.old (OpOf.e o))) .unk, .int .i64 (Tree.kind (Edit.new (OpOf.e o))), .slice (U := U) .u64 (Tree.words (Edit.new (OpOf.e o))) .unk, .slice (U := U) .tree (Tree.kids (Edit.new (OpOf.e o))) .unk, .slice (U := U) .wedit (Edit.words (OpOf.e o)) .unk, .slice (U := U) .kid (Edit.kids (OpOf.e o)) .unk, .int .i64 (Edit.list (OpOf.e o)), .slice (U := U) .op (Edit.ops (OpOf.e o)) .unk])], []⟩ : LSt U)))) ∧ (((OpOf.kind o) == 2) = false → ((((OpOf.kind o) == 3) = true → (pre79 (y_1, ())) ∧ (mu79 (y_1, ()) < N) ∧ ((Q .ret (⟨[(2, .ptr (.loc 2) 0)], [((.loc 2), [.int .i64 (OpOf.kind o), .int .i64 (OpOf.n o), .slice (U := U) .tree (OpOf.l o) .unk, .int .i64 (Edit.kind (turnE y_1)), .int .i64 (Tree.kind (Edit.old (turnE y_1))), .slice (U := U) .u64 (Tree.words (Edit.old (turnE y_1))) .unk, .slice (U := U) .tree (Tree.kids (Edit.old (turnE y_1))) .unk, .int .i64 (Tree.kind (Edit.new (turnE y_1))), .slice (U := U) .u64 (Tree.words (Edit.new (turnE y_1))) .unk, .slice (U := U) .tree (Tree.kids (Edit.new (turnE y_1))) .unk, .slice (U := U) .wedit (Edit.words (turnE y_1)) .unk, .slice (U := U) .kid (Edit.kids (turnE y_1)) .unk, .int .i64 (Edit.list (turnE y_1)), .slice (U := U) .op (Edit.ops (turnE y_1)) .unk])], []⟩ : LSt U)))) ∧ (((OpOf.kind o) == 3) = false → (Q .ret (⟨[(2, .ptr (.loc 2) 0)], [((.loc 2), [.int .i64 (OpOf.kind o), .int .i64 (OpOf.n o), .slice (U := U) .tree (OpOf.l o) .unk, .int .i64 (Edit.kind (OpOf.e o)), .int .i64 (Tree.kind (Edit.old (OpOf.e o))), .slice (U := U) .u64 (Tree.words (Edit.old (OpOf.e o))) .unk, .slice (U := U) .tree (Tree.kids (Edit.old (OpOf.e o))) .unk, .int .i64 (Tree.kind (Edit.new (OpOf.e o))), .slice (U := U) .u64 (Tree.words (Edit.new (OpOf.e o))) .unk, .slice (U := U) .tree (Tree.kids (Edit.new (OpOf.e o))) .unk, .slice (U := U) .wedit (Edit.words (OpOf.e o)) .unk, .slice (U := U) .kid (Edit.kids (OpOf.e o)) .unk, .int .i64 (Edit.list (OpOf.e o)), .slice (U := U) .op (Edit.ops (OpOf.e o)) .unk])], []⟩ : LSt U))))))))))) := by kernel_rfl
  exact e_.mpr (by intro y_1; have hh := h y_1 (reEdit_eq _); exact ⟨fun c_10 => (hh.1 c_10), fun c_10 => ⟨fun c_11 => ((hh.2 c_10).1 c_11), fun c_11 => ⟨fun c_12 => ⟨(((hh.2 c_10).2 c_11).1 c_12).1, (((hh.2 c_10).2 c_11).1 c_12).2.1, (((hh.2 c_10).2 c_11).1 c_12).2.2⟩, fun c_12 => (((hh.2 c_10).2 c_11).2 c_12)⟩⟩⟩)
def Body110 (N : Nat) (o : Op)  : Prop := awp cfg (know (know110 N)) (drawOk cfg (know (know110 N))) Try.f110.ntmps lv110 (cd Try.f110 []) (entry (args110.can (o, ())) []) (EndsQ cfg Try.f110.ntmps Try.f110.results.toList (res110 (o, ())) [])
abbrev HB110 : Prop := ∀ (N : Nat) (o : Op) (_ : Unit), pre110 (o, ()) → mu110 (o, ()) < N + 1 → Body110 N o
theorem make79_110 (ha : HB79) (hb : HB110) : Contract Try.prog cfg 79 spec79 ∧ Contract Try.prog cfg 110 spec110 :=
  contract_mut2 (μA := mu79) (μB := mu110) (l := []) cfgOk rfl (trivial) lv79 lv110 Try.func79 Try.func110 rfl rfl rfl rfl 1 1 (fun _ => rfl) (fun _ => rfl) (by decide) (by decide) (fun N ⟨e, _⟩ => ha N e ()) (fun N ⟨o, _⟩ => hb N o ())
end
end Go.AM.Ytlahjnelghpmeaa

namespace Go.AM.Ytlahjnelghpmeaa
open Go.AM Go.Proofs
theorem turnOp_at (o : Op) : turnOp o = if o.kind = 1 then ⟨2, o.n, o.l, o.e⟩ else if o.kind = 2 then ⟨1, o.n, o.l, o.e⟩ else if o.kind = 3 then ⟨o.kind, o.n, o.l, turnE o.e⟩ else ⟨o.kind, o.n, o.l, o.e⟩ := by cases o; rfl
theorem turnE_at (e : Edit) : turnE e = .mk e.kind e.new e.old (e.words.map turnW) (turnKs e.kids) e.list (turnOs e.ops) := by cases e; rfl
theorem turnKid_at (k : Kid) : turnKid k = ⟨k.at_, turnE k.e⟩ := by cases k; rfl
theorem b110 : HB110 := by
  intro N o _ hp hN
  simp only [pre110, mu110] at hp hN
  rw [massOp_e] at hp hN
  have hpos := massE_pos o.e
  refine vc110 _ _ _ ?_
  rintro y hy
  (simp only [vcS])
  refine ⟨fun h => ?_, fun h => ⟨fun h2 => ?_, fun h2 => ⟨fun h3 => ⟨by simp only [pre79, hy]; omega, by simp only [mu79, hy]; omega, ?_⟩, fun h3 => ?_⟩⟩⟩
  · have e : turnOp o = ⟨2, o.n, o.l, o.e⟩ := by rw [turnOp_at, if_pos h]
    simp only [res110, e]
    (repeat' (first | exact trivial | exact rfl | apply And.intro))
  · have e : turnOp o = ⟨1, o.n, o.l, o.e⟩ := by rw [turnOp_at, if_neg h, if_pos h2]
    simp only [res110, e]
    (repeat' (first | exact trivial | exact rfl | apply And.intro))
  · have e : turnOp o = ⟨o.kind, o.n, o.l, turnE o.e⟩ := by rw [turnOp_at, if_neg h, if_neg h2, if_pos h3]
    simp only [res110, e]
    rw [hy]
    (repeat' (first | exact trivial | exact rfl | apply And.intro))
  · have e : turnOp o = ⟨o.kind, o.n, o.l, o.e⟩ := by rw [turnOp_at, if_neg h, if_neg h2, if_neg h3]
    simp only [res110, e]
    (repeat' (first | exact trivial | exact rfl | apply And.intro))
theorem b79 : HB79 := by
  intro N e _ hp hN
  simp only [pre79, mu79] at hp hN
  have h1 := len_massE e
  have h2 := massKs_len e.kids
  have h3 := massOs_len e.ops
  have ha := turnE_at e
  refine vc79 _ _ _ ?_
  refine loop_rule (ι := Int × List WEdit) (fun s => head79_0 e s.1 s.2) (fun s => 0 ≤ s.1 ∧ s.1 ≤ e.words.length ∧ s.2.length = s.1 ∧ s.2 ++ (e.words.drop s.1.toNat).map turnW = e.words.map turnW) (fun s => ((e.words.length : Int) - s.1).toNat) (0, []) rfl ⟨by simp, by simp, by simp, by simp⟩ ?_
  rintro ⟨i, ws⟩ ⟨g1, g2, g3, g4⟩
  dsimp only at g1 g2 g3 g4
  refine vc79_l0 _ _ _ _ _ _ ?_
  (simp only [vcS])
  refine ⟨fun hi => ?_, fun hi => ?_⟩
  · rw [dropI g1 hi (WEdit.mk 0 0 0 0)] at g4
    simp only [List.map_cons] at g4
    refine ⟨⟨g1, hi⟩, by simp; omega, by unfold InR; omega, (i + 1, ws ++ [turnW (e.words.getD i.toNat (WEdit.mk 0 0 0 0))]), rfl, ⟨by dsimp only; omega, by dsimp only; omega, by simp; omega, ?_⟩, by dsimp only; omega⟩
    simp only [List.append_assoc, List.cons_append, List.nil_append]
    exact g4
  · rw [List.drop_of_length_le (by omega)] at g4
    simp only [List.map_nil, List.append_nil] at g4
    refine loop_rule (ι := Int × List Kid) (fun s => head79_1 e ws s.1 s.2) (fun s => 0 ≤ s.1 ∧ s.1 ≤ e.kids.length ∧ s.2.length = s.1 ∧ s.2 ++ turnKs (e.kids.drop s.1.toNat) = turnKs e.kids) (fun s => ((e.kids.length : Int) - s.1).toNat) (0, []) rfl ⟨by simp, by simp, by simp, by simp⟩ ?_
    rintro ⟨j, ks⟩ ⟨f1, f2, f3, f4⟩
    dsimp only at f1 f2 f3 f4
    refine vc79_l1 _ _ _ _ _ _ _ ?_
    rintro y1 hy1 y2 hy2 y3 hy3
    (simp only [vcS])
    refine ⟨fun hj => ?_, fun hj => ?_⟩
    · have hm := massKs_mem (mem_getD (l := e.kids) (i := j.toNat) (by omega) (KidOf.mk 0 Edit.nil))
      rw [dropI f1 hj (KidOf.mk 0 Edit.nil)] at f4
      rw [← hy1] at f4 hm
      simp only [turnKs, turnKid_at] at f4
      rw [← hy2] at f4 hm
      rw [← hy3] at f4
      refine ⟨⟨f1, hj⟩, by simp only [pre79]; omega, by simp only [mu79]; omega, by simp; omega, by unfold InR; omega, (j + 1, ks ++ [⟨y1.at_, y3⟩]), rfl, ⟨by dsimp only; omega, by dsimp only; omega, by simp; omega, ?_⟩, by dsimp only; omega⟩
      simp only [List.append_assoc, List.cons_append, List.nil_append]
      exact f4
    · rw [List.drop_of_length_le (by omega)] at f4
      simp only [turnKs, List.append_nil] at f4
      refine loop_rule (ι := Int × List Op) (fun s => head79_2 e ws ks s.1 s.2) (fun s => 0 ≤ s.1 ∧ s.1 ≤ e.ops.length ∧ s.2.length = s.1 ∧ s.2 ++ turnOs (e.ops.drop s.1.toNat) = turnOs e.ops) (fun s => ((e.ops.length : Int) - s.1).toNat) (0, []) rfl ⟨by simp, by simp, by simp, by simp⟩ ?_
      rintro ⟨k, os⟩ ⟨d1, d2, d3, d4⟩
      dsimp only at d1 d2 d3 d4
      refine vc79_l2 _ _ _ _ _ _ _ _ ?_
      rintro z1 hz1 z2 hz2 z3 hz3
      (simp only [vcS])
      refine ⟨fun hj => ?_, fun hj => ?_⟩
      · have hm := massOs_mem (mem_getD (l := e.ops) (i := k.toNat) (by omega) Op.nil)
        rw [dropI d1 hj Op.nil] at d4
        rw [← hz1, ← hz2] at d4 hm
        simp only [turnOs] at d4
        rw [← hz3] at d4
        refine ⟨⟨d1, hj⟩, by simp only [pre110]; omega, by simp only [mu110]; omega, by simp; omega, by unfold InR; omega, (k + 1, os ++ [z3]), rfl, ⟨by dsimp only; omega, by dsimp only; omega, by simp; omega, ?_⟩, by dsimp only; omega⟩
        simp only [List.append_assoc, List.cons_append, List.nil_append]
        exact d4
      · rw [List.drop_of_length_le (by omega)] at d4
        simp only [turnOs, List.append_nil] at d4
        rw [g4, f4, d4]
        simp only [res79, ha]
        (repeat' (first | exact trivial | exact rfl | apply And.intro))
theorem c79_110 : Contract Try.prog cfg 79 spec79 ∧ Contract Try.prog cfg 110 spec110 := make79_110 b79 b110
end Go.AM.Ytlahjnelghpmeaa

namespace Go.AM.Ytlahjnelghpmeaa
open Go.AM Go.Proofs
theorem map_eq_getD {α β : Type} {f : α → β} (d : α) {a b : List α} (hl : a.length = b.length) (h : ∀ i : Nat, i < a.length → f (a.getD i d) = f (b.getD i d)) : a.map f = b.map f := by
  apply List.ext_getElem (by simpa using hl)
  intro i h1 h2
  have h1' : i < a.length := by simpa using h1
  have h2' : i < b.length := by simpa using h2
  have := h i h1'
  simpa [List.getD_eq_getElem?_getD, List.getElem?_eq_getElem h1', List.getElem?_eq_getElem h2'] using this
theorem getD_map_eq {α β : Type} {f : α → β} {d : α} {a b : List α} (h : a.map f = b.map f) (i : Nat) : f (a.getD i d) = f (b.getD i d) := by
  have e := congrArg (fun l => l[i]?.getD (f d)) h
  simp only [List.getElem?_map] at e
  rw [List.getD_eq_getElem?_getD, List.getD_eq_getElem?_getD]
  cases h1 : a[i]? <;> cases h2 : b[i]? <;> simp_all
end Go.AM.Ytlahjnelghpmeaa

namespace Go.AM
def widN (m : Nat) : Nat → Nat
  | 0 => 0
  | i + 1 => widN m i + if m / 2 ^ i % 2 = 1 then 255 * 2 ^ (8 * i) else 0
def widW : Nat → Nat → Nat
  | 0, _ => 0
  | k + 1, m => (if m % 2 = 1 then 255 else 0) + 256 * widW k (m / 2)
def pickW : Nat → Nat → Nat → Nat
  | 0, _, _ => 0
  | k + 1, a, m => (if m % 2 = 1 then a % 256 else 0) + 256 * pickW k (a / 256) (m / 2)
def mixW : Nat → Nat → Nat → Nat → Nat
  | 0, _, _, _ => 0
  | k + 1, a, b, m => (if m % 2 = 1 then b % 256 else a % 256) + 256 * mixW k (a / 256) (b / 256) (m / 2)
theorem and_split (x y u v : Nat) (hu : u < 256) (hv : v < 256) : (u + 256 * x) &&& (v + 256 * y) = (u &&& v) + 256 * (x &&& y) := by
  have h : u &&& v < 256 := Nat.and_lt_two_pow (n := 8) u hv
  apply Nat.eq_of_testBit_eq
  intro j
  rw [Nat.add_comm u, Nat.add_comm v, Nat.add_comm (u &&& v), Nat.testBit_and]
  rw [show (256 : Nat) = 2 ^ 8 from rfl, Nat.testBit_two_pow_mul_add _ hu, Nat.testBit_two_pow_mul_add _ hv, Nat.testBit_two_pow_mul_add _ h]
  split <;> rw [Nat.testBit_and]
theorem or_split (x y u v : Nat) (hu : u < 256) (hv : v < 256) : (u + 256 * x) ||| (v + 256 * y) = (u ||| v) + 256 * (x ||| y) := by
  have h : u ||| v < 256 := Nat.or_lt_two_pow (n := 8) hu hv
  apply Nat.eq_of_testBit_eq
  intro j
  rw [Nat.add_comm u, Nat.add_comm v, Nat.add_comm (u ||| v), Nat.testBit_or]
  rw [show (256 : Nat) = 2 ^ 8 from rfl, Nat.testBit_two_pow_mul_add _ hu, Nat.testBit_two_pow_mul_add _ hv, Nat.testBit_two_pow_mul_add _ h]
  split <;> rw [Nat.testBit_or]
theorem and_wide : ∀ (k a m : Nat), a &&& widW k m = pickW k a m
  | 0, a, m => by simp [widW, pickW]
  | k + 1, a, m => by
    have e : a = a % 256 + 256 * (a / 256) := by omega
    simp only [widW, pickW]
    rw [← and_wide k (a / 256) (m / 2)]
    have h : a &&& ((if m % 2 = 1 then 255 else 0) + 256 * widW k (m / 2)) = (a % 256 + 256 * (a / 256)) &&& ((if m % 2 = 1 then 255 else 0) + 256 * widW k (m / 2)) := by rw [← e]
    rw [h, and_split _ _ _ _ (by omega) (by split <;> omega)]
    congr 1
    split
    · have := Nat.and_two_pow_sub_one_eq_mod (a % 256) 8
      simp only [show (2 : Nat) ^ 8 - 1 = 255 from rfl, show (2 : Nat) ^ 8 = 256 from rfl, Nat.mod_mod] at this
      exact this
    · simp
theorem or_pick : ∀ (k a b m n : Nat), (∀ i < k, m / 2 ^ i % 2 + n / 2 ^ i % 2 = 1) → pickW k a n ||| pickW k b m = mixW k a b m
  | 0, a, b, m, n, _ => by simp [pickW, mixW]
  | k + 1, a, b, m, n, h => by
    simp only [pickW, mixW]
    have h0 := h 0 (by omega)
    simp only [Nat.pow_zero, Nat.div_one] at h0
    rw [or_split _ _ _ _ (by split <;> omega) (by split <;> omega), or_pick k (a / 256) (b / 256) (m / 2) (n / 2) (fun i hi => by
      have := h (i + 1) (by omega)
      rw [Nat.div_div_eq_div_mul, Nat.div_div_eq_div_mul]
      rw [Nat.pow_succ, Nat.mul_comm] at this
      exact this)]
    congr 1
    by_cases hm : m % 2 = 1
    · rw [if_pos hm, if_pos hm, if_neg (by omega)]; simp
    · rw [if_neg hm, if_neg hm, if_pos (by omega)]; simp
theorem widN_eq : ∀ m : Fin 256, widN m.1 8 = widW 8 m.1 := by decide +kernel
theorem widW_not : ∀ m : Fin 256, 2 ^ 64 - 1 - widW 8 m.1 = widW 8 (255 - m.1) := by decide +kernel
theorem bits_not : ∀ m : Fin 256, ∀ i : Fin 8, m.1 / 2 ^ i.1 % 2 + (255 - m.1) / 2 ^ i.1 % 2 = 1 := by decide +kernel
theorem widW_lt : ∀ m : Fin 256, widW 8 m.1 < 2 ^ 64 := by decide +kernel
theorem mix_bits (a b m : Nat) (hm : m < 256) : (a &&& (2 ^ 64 - 1 - widN m 8)) ||| (b &&& widN m 8) = mixW 8 a b m := by
  have h1 := widN_eq ⟨m, hm⟩
  have h2 := widW_not ⟨m, hm⟩
  simp only at h1 h2
  rw [h1, h2, and_wide, and_wide]
  exact or_pick 8 a b m (255 - m) (fun i hi => bits_not ⟨m, hm⟩ ⟨i, hi⟩)
def ofK : Nat → (Nat → Nat) → Nat
  | 0, _ => 0
  | k + 1, f => f 0 + 256 * ofK k (fun i => f (i + 1))
theorem ofK_congr : ∀ (k : Nat) {f g : Nat → Nat}, (∀ i, f i = g i) → ofK k f = ofK k g
  | 0, _, _, _ => rfl
  | k + 1, f, g, h => by simp only [ofK, h 0, ofK_congr k (fun i => h (i + 1))]
theorem mixW_of : ∀ (k a b m : Nat), mixW k a b m = ofK k (fun i => if m / 2 ^ i % 2 = 1 then b / 256 ^ i % 256 else a / 256 ^ i % 256)
  | 0, _, _, _ => rfl
  | k + 1, a, b, m => by
    simp only [mixW, ofK, Nat.pow_zero, Nat.div_one]
    rw [mixW_of k, ofK_congr k (g := fun i => if m / 2 ^ (i + 1) % 2 = 1 then b / 256 ^ (i + 1) % 256 else a / 256 ^ (i + 1) % 256) (fun i => ?_)]
    rw [Nat.div_div_eq_div_mul, Nat.div_div_eq_div_mul, Nat.div_div_eq_div_mul, Nat.pow_succ', Nat.pow_succ']
theorem mixW_mix (a b m : Nat) : ((mixW 8 a b m : Nat) : Int) = mix a b m := by
  have nm : ∀ i : Nat, named (m : Int) (i : Int) = decide (m / 2 ^ i % 2 = 1) := by
    intro i
    unfold named
    rw [decide_eq_decide, Int.toNat_natCast]
    have : ((m : Int) / 2 ^ i % 2 : Int) = ((m / 2 ^ i % 2 : Nat) : Int) := by rw [Int.natCast_emod, Int.natCast_ediv, Int.natCast_pow]; rfl
    rw [this]; omega
  have by_ : ∀ (x i : Nat), byteAt (x : Int) i = ((x / 256 ^ i % 256 : Nat) : Int) := by
    intro x i
    unfold byteAt
    rw [Int.natCast_emod, Int.natCast_ediv, Int.natCast_pow]
    rfl
  have mx : ∀ i : Nat, mixAt (a : Int) (b : Int) (m : Int) i = ((if m / 2 ^ i % 2 = 1 then b / 256 ^ i % 256 else a / 256 ^ i % 256 : Nat) : Int) := by
    intro i
    unfold mixAt
    rw [nm, by_, by_]
    by_cases h : m / 2 ^ i % 2 = 1
    · rw [decide_eq_true h, if_pos rfl, if_pos h]
    · rw [decide_eq_false h, if_neg Bool.false_ne_true, if_neg h]
  rw [mixW_of]
  generalize hf : (fun i => if m / 2 ^ i % 2 = 1 then b / 256 ^ i % 256 else a / 256 ^ i % 256) = f
  have hx : ∀ i, mixAt (a : Int) (b : Int) (m : Int) i = (f i : Int) := by intro i; rw [mx, ← hf]
  have e : ofK 8 f = f 0 + 256 * (f 1 + 256 * (f 2 + 256 * (f 3 + 256 * (f 4 + 256 * (f 5 + 256 * (f 6 + 256 * (f 7 + 256 * 0))))))) := rfl
  rw [e]
  simp only [mix, of8, hx]
  omega
end Go.AM

namespace Go.AM.Ytlahjnelghpmeaa
open Go.AM Go.Proofs
noncomputable section
def args134 : ArgL (Int × Unit) := (.cons (aInt .u8) .nil)
def pre134 (a : Int × Unit) : Prop := 0 ≤ a.1 ∧ a.1 < 256
noncomputable def res134 (a : Int × Unit) : V U := .c (.int .u64 ((widN (a.1).toNat 8 : Nat) : Int))
noncomputable def spec134 : Fs U := fs args134 (fun a => [pre134 a]) res134
def args127 : ArgL (Int × Int × Int × Unit) := (.cons (aInt .u64) (.cons (aInt .u64) (.cons (aInt .u8) .nil)))
def pre127 (a : Int × Int × Int × Unit) : Prop := (0 ≤ a.1 ∧ a.1 < 18446744073709551616) ∧ (0 ≤ a.2.1 ∧ a.2.1 < 18446744073709551616) ∧ (0 ≤ a.2.2.1 ∧ a.2.2.1 < 256)
noncomputable def res127 (a : Int × Int × Int × Unit) : V U := .c (.int .u64 (mix a.1 a.2.1 a.2.2.1))
noncomputable def spec127 : Fs U := fs args127 (fun a => [pre127 a]) res127
noncomputable def know134 : List (FuncId × Fs U) := []
def lv134 : Lives U := fun i => match i with
  | 0 => ([(0, [])], [])
  | 1 => ([(0, []), (3, [])], [])
  | 2 => ([(0, []), (3, []), (5, [])], [])
  | 3 => ([(0, []), (3, []), (5, []), (6, [])], [])
  | 4 => ([(0, []), (3, []), (4, []), (5, [])], [])
  | 5 => ([(0, []), (3, []), (4, []), (5, []), (12, [])], [])
  | 6 => ([(0, []), (3, []), (5, [])], [])
  | 7 => ([(0, []), (3, []), (5, [])], [])
  | 8 => ([(2, [])], [])
  | _ => ([], [])
def head134_0 (m : Int) (x3 : Int) (x5 : Int) : LSt U := (⟨[(0, .c (.int .u8 m)), (3, .c (.int .u64 x3)), (5, .c (.int .i64 x5))], [], []⟩ : LSt U)
abbrev W134 (m : Int) (Q : AExit → LSt U → Prop) := awp cfg (know know134) (drawOk cfg (know know134)) Try.f134.ntmps lv134 (cd Try.f134 []) (⟨[(0, .c (.int .u8 m))], [], []⟩ : LSt U) Q
abbrev a134_G20c := awp cfg (know know134) (drawOk cfg (know know134)) Try.f134.ntmps lv134
abbrev s134_G20c := seqK cfg (know know134) (drawOk cfg (know know134)) Try.f134.ntmps lv134
theorem vc134 (m : Int) (Q : AExit → LSt U → Prop) (h : LoopWp (awp cfg (know know134) (drawOk cfg (know know134)) Try.f134.ntmps lv134 (cd Try.f134 [1, 1, 0, 1, 0, 0])) (head134_0 m 0 0) (AExit.inBlock 0 (seqK cfg (know know134) (drawOk cfg (know know134)) Try.f134.ntmps lv134 (cd Try.f134 [1, 1, 1]) Q))) :
    W134 m Q := by
  have e_ : (W134 m Q) = ((((LoopWp (a134_G20c (cd Try.f134 [1, 1, 0, 1, 0, 0])) (head134_0 m 0 0) (AExit.inBlock 0 (s134_G20c (cd Try.f134 [1, 1, 1]) Q)))))) := by kernel_rfl
  exact e_.mpr h
abbrev W134_l0 (m : Int) (x3 : Int) (x5 : Int) (N0 : LSt U → Prop) (Q : AExit → LSt U → Prop) := awp cfg (know know134) (drawOk cfg (know know134)) Try.f134.ntmps lv134 (cd Try.f134 [1, 1, 0, 1, 0, 0]) (head134_0 m x3 x5) (AExit.then N0 (AExit.inBlock 0 (seqK cfg (know know134) (drawOk cfg (know know134)) Try.f134.ntmps lv134 (cd Try.f134 [1, 1, 1]) Q)))
theorem vc134_l0 (m : Int) (x3 : Int) (x5 : Int) (N0 : LSt U → Prop) (Q : AExit → LSt U → Prop) (h : ((decide ((x5 : Int) < 8)) = true → ((0 : Int) ≤ x5) ∧ (((((IntKind.wrap .u8 (BitVec.ofInt (IntKind.bits .u8) (Int.fdiv m (2 ^ (min (Int.toNat x5) (IntKind.bits .u8)))) &&& BitVec.ofInt (IntKind.bits .u8) 1).toNat) : Int) == 1) = true → (InR ((8 : Int) * x5)) ∧ ((0 : Int) ≤ ((8 : Int) * x5)) ∧ ((InR ((x5 : Int) + 1)) ∧ (N0 (head134_0 m (IntKind.wrap .u64 (BitVec.ofInt (IntKind.bits .u64) x3 ||| BitVec.ofInt (IntKind.bits .u64) (IntKind.wrap .u64 ((255 : Int) * 2 ^ (min (Int.toNat ((8 : Int) * x5)) (IntKind.bits .u64))))).toNat) ((x5 : Int) + 1))))) ∧ ((((IntKind.wrap .u8 (BitVec.ofInt (IntKind.bits .u8) (Int.fdiv m (2 ^ (min (Int.toNat x5) (IntKind.bits .u8)))) &&& BitVec.ofInt (IntKind.bits .u8) 1).toNat) : Int) == 1) = false → (InR ((x5 : Int) + 1)) ∧ (N0 (head134_0 m x3 ((x5 : Int) + 1)))))) ∧ ((decide ((x5 : Int) < 8)) = false → Q .ret (⟨[(2, .c (.int .u64 x3))], [], []⟩ : LSt U))) :
    W134_l0 m x3 x5 N0 Q := by
  have e_ : (W134_l0 m x3 x5 N0 Q) = (let zz0 := (((IntKind.wrap .u8 (BitVec.ofInt (IntKind.bits .u8) (Int.fdiv m (2 ^ (min (Int.toNat x5) (IntKind.bits .u8)))) &&& BitVec.ofInt (IntKind.bits .u8) 1).toNat) : Int) == 1); (((decide ((x5 : Int) < 8)) = true → (((0 : Int) ≤ x5) ∧ ((zz0 = true → (InR ((8 : Int) * x5)) ∧ ((0 : Int) ≤ ((8 : Int) * x5)) ∧ ((InR ((x5 : Int) + 1)) ∧ (N0 (head134_0 m (IntKind.wrap .u64 (BitVec.ofInt (IntKind.bits .u64) x3 ||| BitVec.ofInt (IntKind.bits .u64) (IntKind.wrap .u64 ((255 : Int) * 2 ^ (min (Int.toNat ((8 : Int) * x5)) (IntKind.bits .u64))))).toNat) ((x5 : Int) + 1))))) ∧ (zz0 = false → (InR ((x5 : Int) + 1)) ∧ (N0 (head134_0 m x3 ((x5 : Int) + 1))))))) ∧ ((decide ((x5 : Int) < 8)) = false → (Q .ret (⟨[(2, .c (.int .u64 x3))], [], []⟩ : LSt U))))) := by kernel_rfl
  exact e_.mpr ⟨fun c_1 => ⟨(h.1 c_1).1, ⟨fun c_2 => ⟨((h.1 c_1).2.1 c_2).1, ((h.1 c_1).2.1 c_2).2.1, ⟨((h.1 c_1).2.1 c_2).2.2.1, ((h.1 c_1).2.1 c_2).2.2.2⟩⟩, fun c_2 => ⟨((h.1 c_1).2.2 c_2).1, ((h.1 c_1).2.2 c_2).2⟩⟩⟩, fun c_1 => (h.2 c_1)⟩
def Body134 (m : Int)  : Prop := awp cfg (know (know134)) (drawOk cfg (know (know134))) Try.f134.ntmps lv134 (cd Try.f134 []) (entry (args134.can (m, ())) []) (EndsQ cfg Try.f134.ntmps Try.f134.results.toList (res134 (m, ())) [])
theorem make134 (hb : ∀ (m : Int) (_ : Unit), pre134 (m, ()) → Body134 m) : Contract Try.prog cfg 134 spec134 :=
  contract_flat (l := []) cfgOk rfl (trivial) lv134 Try.func134 rfl rfl 1 (fun _ => rfl) (by decide) (fun ⟨m, _⟩ => hb m ())
noncomputable def know127 : List (FuncId × Fs U) := [(134, spec134)]
def lv127 : Lives U := fun i => match i with
  | 0 => ([(0, []), (1, []), (2, [])], [])
  | 1 => ([(6, [])], [])
  | _ => ([], [])
abbrev W127 (a : Int) (b : Int) (m : Int) (Q : AExit → LSt U → Prop) := awp cfg (know know127) (drawOk cfg (know know127)) Try.f127.ntmps lv127 (cd Try.f127 []) (⟨[(0, .c (.int .u64 a)), (1, .c (.int .u64 b)), (2, .c (.int .u8 m))], [], []⟩ : LSt U) Q
theorem vc127 (a : Int) (b : Int) (m : Int) (Q : AExit → LSt U → Prop) (h : (pre134 (m, ())) ∧ (pre134 (m, ())) ∧ (Q .ret (⟨[(6, .c (.int .u64 (IntKind.wrap .u64 (BitVec.ofInt (IntKind.bits .u64) (IntKind.wrap .u64 (BitVec.ofInt (IntKind.bits .u64) a &&& ~~~(BitVec.ofInt (IntKind.bits .u64) ((widN (m).toNat 8 : Nat) : Int))).toNat) ||| BitVec.ofInt (IntKind.bits .u64) (IntKind.wrap .u64 (BitVec.ofInt (IntKind.bits .u64) b &&& BitVec.ofInt (IntKind.bits .u64) ((widN (m).toNat 8 : Nat) : Int)).toNat)).toNat)))], [], []⟩ : LSt U))) :
    W127 a b m Q := by
  have e_ : (W127 a b m Q) = (type_of% h) := by kernel_rfl
  exact e_.mpr ⟨h.1, h.2.1, h.2.2⟩
def Body127 (a : Int) (b : Int) (m : Int)  : Prop := awp cfg (know (know127)) (drawOk cfg (know (know127))) Try.f127.ntmps lv127 (cd Try.f127 []) (entry (args127.can (a, b, m, ())) []) (EndsQ cfg Try.f127.ntmps Try.f127.results.toList (res127 (a, b, m, ())) [])
theorem make127 (c134 : Contract Try.prog cfg 134 spec134) (hb : ∀ (a : Int) (b : Int) (m : Int) (_ : Unit), pre127 (a, b, m, ()) → Body127 a b m) : Contract Try.prog cfg 127 spec127 :=
  contract_flat (l := [(134, spec134)]) cfgOk rfl (⟨c134, trivial⟩) lv127 Try.func127 rfl rfl 3 (fun _ => rfl) (by decide) (fun ⟨a, b, m, _⟩ => hb a b m ())
end
end Go.AM.Ytlahjnelghpmeaa

namespace Go.AM.Ytlahjnelghpmeaa
open Go.AM Go.Proofs
theorem bit_of : ∀ n : Fin 256, ∀ i : Fin 8, IntKind.wrap .u8 (BitVec.ofInt (IntKind.bits .u8) (Int.fdiv (n.1 : Int) (2 ^ (min (Int.toNat (i.1 : Int)) (IntKind.bits .u8)))) &&& BitVec.ofInt (IntKind.bits .u8) 1).toNat = ((n.1 / 2 ^ i.1 % 2 : Nat) : Int) := by decide +kernel
theorem or_byte : ∀ n : Fin 256, ∀ i : Fin 8, IntKind.wrap .u64 (BitVec.ofInt (IntKind.bits .u64) ((widN n.1 i.1 : Nat) : Int) ||| BitVec.ofInt (IntKind.bits .u64) (IntKind.wrap .u64 (255 * 2 ^ (min (Int.toNat (8 * (i.1 : Int))) (IntKind.bits .u64))))).toNat = ((widN n.1 i.1 + 255 * 2 ^ (8 * i.1) : Nat) : Int) := by decide +kernel
theorem c134 : Contract Try.prog cfg 134 spec134 := by
  refine make134 ?_
  intro m _ hp
  simp only [pre134] at hp
  obtain ⟨n, rfl⟩ := Int.eq_ofNat_of_zero_le hp.1
  have hn : n < 256 := by omega
  refine vc134 _ _ ?_
  refine loop_rule (ι := Nat) (fun i => head134_0 n ((widN n i : Nat) : Int) i) (fun i => i ≤ 8) (fun i => 8 - i) 0 rfl (by omega) ?_
  intro i hi
  refine vc134_l0 _ _ _ _ _ ?_
  (simp only [vcS])
  refine ⟨fun hc => ⟨by omega, fun hq => ⟨by unfold InR; omega, by omega, by unfold InR; omega, i + 1, ?_, by omega, by omega⟩, fun hq => ⟨by unfold InR; omega, i + 1, ?_, by omega, by omega⟩⟩, fun hc => ?_⟩
  · have h1 := bit_of ⟨n, hn⟩ ⟨i, by omega⟩
    have h2 := or_byte ⟨n, hn⟩ ⟨i, by omega⟩
    simp only at h1 h2
    rw [h1] at hq
    rw [h2]
    have e : widN n (i + 1) = widN n i + 255 * 2 ^ (8 * i) := by simp only [widN]; rw [if_pos (by omega)]
    rw [e]
    rfl
  · have h1 := bit_of ⟨n, hn⟩ ⟨i, by omega⟩
    simp only at h1
    rw [h1] at hq
    have e : widN n (i + 1) = widN n i := by simp only [widN]; rw [if_neg (by omega)]; omega
    rw [e]
    rfl
  · have : i = 8 := by omega
    subst this
    exact ends_int rfl rfl
theorem ofInt_nat (a : Nat) (h : a < 2 ^ 64) : (BitVec.ofInt 64 (a : Int)).toNat = a := by
  rw [BitVec.toNat_ofInt]
  omega
theorem c127 : Contract Try.prog cfg 127 spec127 := by
  refine make127 c134 ?_
  intro a b m _ hp
  simp only [pre127] at hp
  obtain ⟨⟨a0, a1⟩, ⟨b0, b1⟩, m0, m1⟩ := hp
  obtain ⟨x, rfl⟩ := Int.eq_ofNat_of_zero_le a0
  obtain ⟨y, rfl⟩ := Int.eq_ofNat_of_zero_le b0
  obtain ⟨n, rfl⟩ := Int.eq_ofNat_of_zero_le m0
  have hn : n < 256 := by omega
  have hx : x < 2 ^ 64 := by omega
  have hy : y < 2 ^ 64 := by omega
  have hw := widW_lt ⟨n, hn⟩
  have hw2 := widN_eq ⟨n, hn⟩
  simp only at hw hw2
  rw [← hw2] at hw
  refine vc127 _ _ _ _ ?_
  refine ⟨⟨m0, m1⟩, ⟨m0, m1⟩, ends_int rfl ?_⟩
  have em : mix x y n = (((x &&& (2 ^ 64 - 1 - widN n 8)) ||| (y &&& widN n 8) : Nat) : Int) := by rw [← mixW_mix, ← mix_bits x y n hn]
  have e1 : (BitVec.ofInt 64 (x : Int) &&& ~~~(BitVec.ofInt 64 ((widN n 8 : Nat) : Int))).toNat = x &&& (2 ^ 64 - 1 - widN n 8) := by
    rw [BitVec.toNat_and, BitVec.toNat_not, ofInt_nat x hx, ofInt_nat _ hw]
  have e2 : (BitVec.ofInt 64 (y : Int) &&& BitVec.ofInt 64 ((widN n 8 : Nat) : Int)).toNat = y &&& widN n 8 := by
    rw [BitVec.toNat_and, ofInt_nat y hy, ofInt_nat _ hw]
  have l1 : x &&& (2 ^ 64 - 1 - widN n 8) < 2 ^ 64 := Nat.lt_of_le_of_lt Nat.and_le_left hx
  have l2 : y &&& widN n 8 < 2 ^ 64 := Nat.lt_of_le_of_lt Nat.and_le_left hy
  have l3 : (x &&& (2 ^ 64 - 1 - widN n 8)) ||| (y &&& widN n 8) < 2 ^ 64 := Nat.or_lt_two_pow l1 l2
  have key : IntKind.wrap .u64 ((BitVec.ofInt 64 (IntKind.wrap .u64 ((BitVec.ofInt 64 (x : Int) &&& ~~~(BitVec.ofInt 64 ((widN n 8 : Nat) : Int))).toNat : Int)) ||| BitVec.ofInt 64 (IntKind.wrap .u64 ((BitVec.ofInt 64 (y : Int) &&& BitVec.ofInt 64 ((widN n 8 : Nat) : Int)).toNat : Int))).toNat : Int) = mix x y n := by
    have w1 : ∀ k : Nat, k < 2 ^ 64 → IntKind.wrap .u64 (k : Int) = k := fun k hk => wrap_u64 (by omega) (by omega)
    rw [e1, e2, w1 _ l1, w1 _ l2, BitVec.toNat_or, ofInt_nat _ l1, ofInt_nat _ l2, w1 _ l3, em]
  exact key
end Go.AM.Ytlahjnelghpmeaa

namespace Go.AM.Ytlahjnelghpmeaa
open Go.AM Go.Proofs
noncomputable section
def args96 : ArgL (List Tree × List Tree × Unit × Unit) := (.cons (aSl .tree) (.cons (aSl .tree) (.cons (aFn 34) .nil)))
def pre96 (a : List Tree × List Tree × Unit × Unit) : Prop := massK a.1 ≤ 1000000000000 ∧ massK a.2.1 ≤ 1000000000000
noncomputable def res96 (a : List Tree × List Tree × Unit × Unit) : V U := .c (.bool (eqX (normsT a.1) (normsT a.2.1)))
noncomputable def spec96 : Fs U := fs args96 (fun a => [pre96 a]) res96
noncomputable def know96 : List (FuncId × Fs U) := [(34, spec34)]
def lv96 : Lives U := fun i => match i with
  | 0 => ([(0, []), (1, []), (2, [])], [])
  | 1 => ([(0, []), (1, []), (2, []), (14, [])], [])
  | 2 => ([(6, [])], [])
  | 3 => ([(1, []), (2, []), (15, []), (16, []), (17, [])], [])
  | 4 => ([(1, []), (2, []), (15, []), (16, []), (17, []), (18, [])], [])
  | 5 => ([(1, []), (2, []), (7, []), (8, []), (15, []), (16, []), (17, [])], [((.loc 8), [])])
  | 6 => ([(1, []), (2, []), (8, []), (9, []), (15, []), (16, []), (17, [])], [((.loc 8), []), ((.loc 9), [])])
  | 7 => ([(1, []), (2, []), (15, []), (16, []), (17, []), (30, [])], [])
  | 8 => ([(6, [])], [])
  | 9 => ([(1, []), (2, []), (15, []), (16, []), (17, [])], [])
  | 10 => ([(6, [])], [])
  | _ => ([], [])
def head96_0 (a : List Tree) (b : List Tree) (f : Unit) (x17 : Int) : LSt U := (⟨[(1, .c (.slice (U := U) .tree b .unk)), (2, .fn 34), (15, .c (.slice (U := U) .tree a .unk)), (16, .c (.int .i64 (a.length : Int))), (17, .c (.int .i64 x17))], [], []⟩ : LSt U)
abbrev W96 (a : List Tree) (b : List Tree) (f : Unit) (Q : AExit → LSt U → Prop) := awp cfg (know know96) (drawOk cfg (know know96)) Try.f96.ntmps lv96 (cd Try.f96 []) (⟨[(0, .c (.slice (U := U) .tree a .unk)), (1, .c (.slice (U := U) .tree b .unk)), (2, .fn 34)], [], []⟩ : LSt U) Q
abbrev a96_G20d := awp cfg (know know96) (drawOk cfg (know know96)) Try.f96.ntmps lv96
abbrev s96_G20d := seqK cfg (know know96) (drawOk cfg (know know96)) Try.f96.ntmps lv96
theorem vc96 (a : List Tree) (b : List Tree) (f : Unit) (Q : AExit → LSt U → Prop) (h : ((((a.length : Int) : Int) != (b.length : Int)) = true → Q .ret (⟨[(6, .c (.bool false))], [], []⟩ : LSt U)) ∧ ((((a.length : Int) : Int) != (b.length : Int)) = false → LoopWp (awp cfg (know know96) (drawOk cfg (know know96)) Try.f96.ntmps lv96 (cd Try.f96 [1, 1, 0, 1, 0, 0])) (head96_0 a b f 0) (AExit.inBlock 0 (seqK cfg (know know96) (drawOk cfg (know know96)) Try.f96.ntmps lv96 (cd Try.f96 [1, 1, 1]) Q)))) :
    W96 a b f Q := by
  have e_ : (W96 a b f Q) = ((((((a.length : Int) != (b.length : Int)) = true → (Q .ret (⟨[(6, .c (.bool false))], [], []⟩ : LSt U))) ∧ (((a.length : Int) != (b.length : Int)) = false → (LoopWp (a96_G20d (cd Try.f96 [1, 1, 0, 1, 0, 0])) (head96_0 a b f 0) (AExit.inBlock 0 (s96_G20d (cd Try.f96 [1, 1, 1]) Q))))))) := by kernel_rfl
  exact e_.mpr ⟨fun c_4 => (h.1 c_4), fun c_4 => (h.2 c_4)⟩
abbrev W96_l0 (a : List Tree) (b : List Tree) (f : Unit) (x17 : Int) (N0 : LSt U → Prop) (Q : AExit → LSt U → Prop) := awp cfg (know know96) (drawOk cfg (know know96)) Try.f96.ntmps lv96 (cd Try.f96 [1, 1, 0, 1, 0, 0]) (head96_0 a b f x17) (AExit.then N0 (AExit.inBlock 0 (seqK cfg (know know96) (drawOk cfg (know know96)) Try.f96.ntmps lv96 (cd Try.f96 [1, 1, 1]) Q)))
theorem vc96_l0 (a : List Tree) (b : List Tree) (f : Unit) (x17 : Int) (N0 : LSt U → Prop) (Q : AExit → LSt U → Prop) (h : ((decide ((x17 : Int) < (a.length : Int))) = true → ((0 : Int) ≤ x17 ∧ x17 < (a.length : Int)) ∧ (((0 : Int) ≤ x17 ∧ x17 < (b.length : Int)) ∧ ((pre34 ((Tree.mk (Tree.kind (List.getD a (Int.toNat x17) Tree.nil)) (Tree.words (List.getD a (Int.toNat x17) Tree.nil)) (Tree.kids (List.getD a (Int.toNat x17) Tree.nil))), (Tree.mk (Tree.kind (List.getD b (Int.toNat x17) Tree.nil)) (Tree.words (List.getD b (Int.toNat x17) Tree.nil)) (Tree.kids (List.getD b (Int.toNat x17) Tree.nil))), ())) ∧ (((!(sameT (normT (Tree.mk (Tree.kind (List.getD a (Int.toNat x17) Tree.nil)) (Tree.words (List.getD a (Int.toNat x17) Tree.nil)) (Tree.kids (List.getD a (Int.toNat x17) Tree.nil)))) (normT (Tree.mk (Tree.kind (List.getD b (Int.toNat x17) Tree.nil)) (Tree.words (List.getD b (Int.toNat x17) Tree.nil)) (Tree.kids (List.getD b (Int.toNat x17) Tree.nil)))))) = true → Q .ret (⟨[(6, .c (.bool false))], [], []⟩ : LSt U)) ∧ ((!(sameT (normT (Tree.mk (Tree.kind (List.getD a (Int.toNat x17) Tree.nil)) (Tree.words (List.getD a (Int.toNat x17) Tree.nil)) (Tree.kids (List.getD a (Int.toNat x17) Tree.nil)))) (normT (Tree.mk (Tree.kind (List.getD b (Int.toNat x17) Tree.nil)) (Tree.words (List.getD b (Int.toNat x17) Tree.nil)) (Tree.kids (List.getD b (Int.toNat x17) Tree.nil)))))) = false → (InR ((x17 : Int) + 1)) ∧ (N0 (head96_0 a b f ((x17 : Int) + 1)))))))) ∧ ((decide ((x17 : Int) < (a.length : Int))) = false → Q .ret (⟨[(6, .c (.bool true))], [], []⟩ : LSt U))) :
    W96_l0 a b f x17 N0 Q := by
  have e_ : (W96_l0 a b f x17 N0 Q) = (let zz0 := (!(sameT (normT (Tree.mk (Tree.kind (List.getD a (Int.toNat x17) Tree.nil)) (Tree.words (List.getD a (Int.toNat x17) Tree.nil)) (Tree.kids (List.getD a (Int.toNat x17) Tree.nil)))) (normT (Tree.mk (Tree.kind (List.getD b (Int.toNat x17) Tree.nil)) (Tree.words (List.getD b (Int.toNat x17) Tree.nil)) (Tree.kids (List.getD b (Int.toNat x17) Tree.nil)))))); (((decide ((x17 : Int) < (a.length : Int))) = true → ((0 : Int) ≤ x17 ∧ x17 < (a.length : Int)) ∧ (((0 : Int) ≤ x17 ∧ x17 < (b.length : Int)) ∧ ((pre34 ((Tree.mk (Tree.kind (List.getD a (Int.toNat x17) Tree.nil)) (Tree.words (List.getD a (Int.toNat x17) Tree.nil)) (Tree.kids (List.getD a (Int.toNat x17) Tree.nil))), (Tree.mk (Tree.kind (List.getD b (Int.toNat x17) Tree.nil)) (Tree.words (List.getD b (Int.toNat x17) Tree.nil)) (Tree.kids (List.getD b (Int.toNat x17) Tree.nil))), ())) ∧ ((zz0 = true → (Q .ret (⟨[(6, .c (.bool false))], [], []⟩ : LSt U))) ∧ (zz0 = false → (InR ((x17 : Int) + 1)) ∧ (N0 (head96_0 a b f ((x17 : Int) + 1)))))))) ∧ ((decide ((x17 : Int) < (a.length : Int))) = false → (Q .ret (⟨[(6, .c (.bool true))], [], []⟩ : LSt U))))) := by kernel_rfl
  exact e_.mpr ⟨fun c_5 => ⟨(h.1 c_5).1, ⟨(h.1 c_5).2.1, ⟨(h.1 c_5).2.2.1, ⟨fun c_6 => ((h.1 c_5).2.2.2.1 c_6), fun c_6 => ⟨((h.1 c_5).2.2.2.2 c_6).1, ((h.1 c_5).2.2.2.2 c_6).2⟩⟩⟩⟩⟩, fun c_5 => (h.2 c_5)⟩
def Body96 (a : List Tree) (b : List Tree) (f : Unit)  : Prop := awp cfg (know (know96)) (drawOk cfg (know (know96))) Try.f96.ntmps lv96 (cd Try.f96 []) (entry (args96.can (a, b, f, ())) []) (EndsQ cfg Try.f96.ntmps Try.f96.results.toList (res96 (a, b, f, ())) [])
theorem make96 (c34 : Contract Try.prog cfg 34 spec34) (hb : ∀ (a : List Tree) (b : List Tree) (f : Unit) (_ : Unit), pre96 (a, b, f, ()) → Body96 a b f) : Contract Try.prog cfg 96 spec96 :=
  contract_flat (l := [(34, spec34)]) cfgOk rfl (⟨c34, trivial⟩) lv96 Try.func96 rfl rfl 3 (fun _ => rfl) (by decide) (fun ⟨a, b, f, _⟩ => hb a b f ())
end
end Go.AM.Ytlahjnelghpmeaa

namespace Go.AM.Ytlahjnelghpmeaa
open Go.AM Go.Proofs
theorem c96 : Contract Try.prog cfg 96 spec96 := by
  refine make96 c34 ?_
  intro a b f _ hp
  simp only [pre96] at hp
  refine vc96 a b f _ ?_
  (simp only [vcS])
  refine ⟨fun hc => ends_bool rfl (eqX_no (a := normsT a) (b := normsT b) (fun h => hc (by have := congrArg List.length h; simp [normsT] at this; omega))).symm, fun hc => ?_⟩
  have hl : a.length = b.length := by omega
  have hla := massK_len a
  refine loop_rule (ι := Int) (fun i => head96_0 a b f i) (fun i => 0 ≤ i ∧ i ≤ a.length ∧ ∀ j : Nat, (j : Int) < i → normT (a.getD j Tree.nil) = normT (b.getD j Tree.nil)) (fun i => ((a.length : Int) - i).toNat) 0 rfl ⟨by omega, by omega, by intro j hj; omega⟩ ?_
  rintro i ⟨h1, h2, h3⟩
  refine vc96_l0 a b f _ _ _ ?_
  (simp only [vcS])
  (simp only [Tree.eta, Edit.eta, Tree.kind_mk, Tree.words_mk, Tree.kids_mk])
  refine ⟨fun hi => ⟨⟨h1, hi⟩, ⟨h1, by omega⟩, ?_, fun hq => ?_, fun hq => ⟨by unfold InR; omega, i + 1, rfl, ⟨by omega, by omega, ?_⟩, by omega⟩⟩, fun hi => ?_⟩
  · have := massK_mem (mem_getD (l := a) (i := i.toNat) (by omega) Tree.nil)
    have := massK_mem (mem_getD (l := b) (i := i.toNat) (by omega) Tree.nil)
    simp only [pre34]; omega
  · refine ends_bool rfl (eqX_no (a := normsT a) (b := normsT b) (fun h => ?_)).symm
    have h5 := getD_map_eq (d := Tree.nil) h i.toNat
    rw [sameT_false] at hq
    exact hq h5
  · intro j hj
    by_cases hj2 : (j : Int) < i
    · exact h3 j hj2
    · rw [sameT_true, show i.toNat = j by omega] at hq
      exact hq
  · exact ends_bool rfl (eqX_iff (a := normsT a) (b := normsT b).2 (map_eq_getD Tree.nil hl (fun j hj => h3 j (by omega)))).symm
end Go.AM.Ytlahjnelghpmeaa

namespace Go.AM
structure Wst where
  out : List Op
  gone : List Tree
  brought : List Tree
def flushO (out : List Op) (g b : List Tree) : List Op :=
  out ++ ((if g.length = 0 then [] else [⟨1, 0, g, Edit.nil⟩]) ++ (if b.length = 0 then [] else [⟨2, 0, b, Edit.nil⟩]))
def keepO : List Op → Int → List Op
  | [], n => [⟨0, n, [], Edit.nil⟩]
  | [o], n => if o.kind = 0 then [⟨o.kind, o.n + n, o.l, o.e⟩] else [o, ⟨0, n, [], Edit.nil⟩]
  | o :: p :: r, n => o :: keepO (p :: r) n
def flushW (w : Wst) : Wst := ⟨flushO w.out w.gone w.brought, [], []⟩
def keepW (w : Wst) (n : Int) : Wst := ⟨keepO (flushW w).out n, [], []⟩
mutual
def nrmE : Edit → Edit
  | .mk k o n w ks l os =>
    if k = 1 then .mk k (normT o) (normT n) [] [] l []
    else if k = 2 then .mk k Tree.nil Tree.nil w (nrmKs ks) l []
    else if k = 3 then .mk k Tree.nil Tree.nil [] [] l (flushW (nrmOs l os ⟨[], [], []⟩)).out
    else .mk k Tree.nil Tree.nil [] [] l []
def nrmKs : List (KidOf Edit) → List (KidOf Edit)
  | [] => []
  | k :: r => nrmKid k :: nrmKs r
def nrmKid : KidOf Edit → KidOf Edit
  | ⟨a, e⟩ => ⟨a, nrmE e⟩
def nrmOs (list : Int) : List (OpOf Edit) → Wst → Wst
  | [], s => s
  | o :: r, s => nrmOs list r (nrmOp list o s)
def nrmOp (list : Int) : OpOf Edit → Wst → Wst
  | ⟨k, n, l, e⟩, s =>
    if k = 0 then keepW s n
    else if k = 1 then ⟨s.out, s.gone ++ normsT l, s.brought⟩
    else if k = 2 then ⟨s.out, s.gone, s.brought ++ normsT l⟩
    else if k = 3 then (if idleE list (nrmE e) = true then keepW s 1 else ⟨(flushW s).out ++ [⟨3, 0, [], nrmE e⟩], [], []⟩)
    else s
end
theorem nrmE_at (e : Edit) : nrmE e = if e.kind = 1 then .mk e.kind (normT e.old) (normT e.new) [] [] e.list []
    else if e.kind = 2 then .mk e.kind Tree.nil Tree.nil e.words (nrmKs e.kids) e.list []
    else if e.kind = 3 then .mk e.kind Tree.nil Tree.nil [] [] e.list (flushW (nrmOs e.list e.ops ⟨[], [], []⟩)).out
    else .mk e.kind Tree.nil Tree.nil [] [] e.list [] := by cases e; rfl
theorem nrmKid_at (k : Kid) : nrmKid k = ⟨k.at_, nrmE k.e⟩ := by cases k; rfl
theorem nrmOp_at (list : Int) (o : Op) (s : Wst) : nrmOp list o s = if o.kind = 0 then keepW s o.n
    else if o.kind = 1 then ⟨s.out, s.gone ++ normsT o.l, s.brought⟩
    else if o.kind = 2 then ⟨s.out, s.gone, s.brought ++ normsT o.l⟩
    else if o.kind = 3 then (if idleE list (nrmE o.e) = true then keepW s 1 else ⟨(flushW s).out ++ [⟨3, 0, [], nrmE o.e⟩], [], []⟩)
    else s := by cases o; rfl
end Go.AM

namespace Go.AM.Ytlahjnelghpmeaa
open Go.AM Go.Proofs
theorem sameT_self (a : Tree) : sameT a a = true := by simp [sameT]
theorem trim_idem (l : List Int) : trim (trim l) = trim l := by
  induction l with
  | nil => rfl
  | cons x r ih =>
    rw [trim_cons]
    split
    · rfl
    · rename_i h
      rw [trim_cons, ih, if_neg h]
theorem trimK_idem (l : List Tree) : trimK (trimK l) = trimK l := by
  induction l with
  | nil => rfl
  | cons x r ih =>
    rw [trimK_cons]
    split
    · rfl
    · rename_i h
      rw [trimK_cons, ih, if_neg h]
def Normed : List Tree → Prop
  | [] => True
  | t :: r => normT t = t ∧ Normed r
theorem Normed.eq : ∀ {l : List Tree}, Normed l → normK l = l
  | [], _ => rfl
  | t :: r, h => by simp only [normK, h.1, Normed.eq h.2]
theorem Normed.trim : ∀ {l : List Tree}, Normed l → Normed (trimK l)
  | [], _ => trivial
  | t :: r, h => by
    rw [trimK_cons]
    split
    · trivial
    · exact ⟨h.1, Normed.trim h.2⟩
mutual
theorem normT_idem : ∀ (t : Tree), normT (normT t) = normT t
  | .mk k w ks => by
    have h := normK_normed ks
    by_cases h0 : k = 0
    · simp [normT, h0, Tree.nil]
    · by_cases h1 : k = 1
      · subst h1
        simp only [normT, if_neg h0, if_true, trim_idem, h.trim.eq, trimK_idem]
      · simp only [normT, if_neg h0, if_neg h1, h.eq]
theorem normK_normed : ∀ (ks : List Tree), Normed (normK ks)
  | [] => trivial
  | t :: r => ⟨normT_idem t, normK_normed r⟩
end
end Go.AM.Ytlahjnelghpmeaa

namespace Go.AM.Ytlahjnelghpmeaa
open Go.AM Go.Proofs
theorem keepO_cases : ∀ (l : List Op) (n : Int), keepO l n = l ++ [⟨0, n, [], Edit.nil⟩] ∨ ∃ a o, l = a ++ [o] ∧ o.kind = 0 ∧ keepO l n = a ++ [⟨o.kind, o.n + n, o.l, o.e⟩]
  | [], n => Or.inl rfl
  | [o], n => by
    by_cases h : o.kind = 0
    · exact Or.inr ⟨[], o, rfl, h, by simp [keepO, h]⟩
    · exact Or.inl (by simp [keepO, h])
  | o :: p :: r, n => by
    rcases keepO_cases (p :: r) n with h | ⟨a, q, h1, h2, h3⟩
    · exact Or.inl (by simp only [keepO, h, List.cons_append])
    · exact Or.inr ⟨o :: a, q, by rw [h1]; rfl, h2, by simp only [keepO, h3, List.cons_append]⟩
def W0 : Wst := ⟨[], [], []⟩
theorem normsT_idem (l : List Tree) : normsT (normsT l) = normsT l := by
  simp only [normsT, List.map_map]
  congr 1
  funext t
  exact normT_idem t
theorem normsT_append (a b : List Tree) : normsT (a ++ b) = normsT a ++ normsT b := by simp [normsT]
end Go.AM.Ytlahjnelghpmeaa

namespace Go.AM
theorem noneT_is {t : Tree} (h : noneT t = true) : t = Tree.nil := by
  obtain ⟨k, w, ks⟩ := t
  simp only [noneT, decide_eq_true_eq] at h
  obtain ⟨h1, h2, h3⟩ := h
  have h1 : k = 0 := h1
  rw [h1, List.eq_nil_of_length_eq_zero (l := w) h2, List.eq_nil_of_length_eq_zero (l := ks) h3]
  rfl
theorem sameE_is {e : Edit} (h : sameE e = true) : e = Edit.nil := by
  obtain ⟨k, o, n, w, ks, l, os⟩ := e
  simp only [sameE, Bool.and_eq_true, decide_eq_true_eq] at h
  obtain ⟨⟨⟨h1, h2⟩, h3⟩, h4, h5, h6, h7⟩ := h
  have h1 : k = 0 := h1
  have h7 : l = 0 := h7
  rw [h1, h7, noneT_is (t := o) h2, noneT_is (t := n) h3, List.eq_nil_of_length_eq_zero (l := w) h4, List.eq_nil_of_length_eq_zero (l := ks) h5, List.eq_nil_of_length_eq_zero (l := os) h6]
  rfl
structure RightE (e : Edit) (d : Int) : Prop where
  d0 : d ≠ 0
  kind : 0 ≤ e.kind ∧ e.kind ≤ 3
  none : e.kind ≠ 1 → e.old = Tree.nil ∧ e.new = Tree.nil
  words0 : e.kind ≠ 2 → e.words = [] ∧ e.kids = []
  ops0 : e.kind ≠ 3 → e.list = 0 ∧ e.ops = []
  rep : e.kind = 1 → rightT e.old 64 = true ∧ rightT e.new 64 = true ∧ e.old.kind ≠ 10 ∧ e.new.kind ≠ 10
  words : wordsOk (-1) e.words = true
  kids : rightKs (-1) e.kids (d - 1) = true
  list : e.kind = 3 → 2 ≤ e.list ∧ e.list ≤ 9
  ops : rightOs e.list e.ops (d - 1) = true
  len : lenA e.ops 0 < 1048576 ∧ lenB e.ops 0 < 1048576
theorem rightE_all {e : Edit} {d : Int} (h : rightE e d = true) : RightE e d := by
  obtain ⟨k, o, n, w, ks, l, os⟩ := e
  rw [rightE] at h
  split at h
  · cases h
  · rename_i a
    split at h
    · cases h
    · rename_i b
      have b1 : k ≠ 1 → o = Tree.nil ∧ n = Tree.nil := by
        intro hk
        by_cases x : noneT o = true ∧ noneT n = true
        · exact ⟨noneT_is x.1, noneT_is x.2⟩
        · exact absurd (.inl ⟨hk, x⟩) b
      have b2 : k ≠ 2 → w = [] ∧ ks = [] := by
        intro hk
        by_cases x : w.length = 0 ∧ ks.length = 0
        · exact ⟨List.eq_nil_of_length_eq_zero x.1, List.eq_nil_of_length_eq_zero x.2⟩
        · exact absurd (.inr (.inl ⟨hk, x⟩)) b
      have b3 : k ≠ 3 → l = 0 ∧ os = [] := by
        intro hk
        by_cases x : l ≠ 0 ∨ os.length ≠ 0
        · exact absurd (.inr (.inr ⟨hk, x⟩)) b
        · exact ⟨by omega, List.eq_nil_of_length_eq_zero (by omega)⟩
      split at h
      · rename_i c
        simp only [Bool.and_eq_true, decide_eq_true_eq] at h
        obtain ⟨⟨h1, h2⟩, h3, h4⟩ := h
        have c2 := b2 (by omega)
        have c3 := b3 (by omega)
        obtain ⟨rfl, rfl⟩ := c2
        obtain ⟨rfl, rfl⟩ := c3
        exact ⟨by omega, ⟨by show 0 ≤ k; omega, by show k ≤ 3; omega⟩, b1, b2, b3, fun _ => ⟨h1, h2, h3, h4⟩, rfl, rfl, fun e => by have e : k = 3 := e; omega, rfl, by show lenA [] 0 < _ ∧ lenB [] 0 < _; simp [lenA, lenB]⟩
      · rename_i c
        simp only [Bool.and_eq_true, decide_eq_true_eq] at h
        obtain ⟨⟨⟨⟨h1, h2⟩, h3⟩, h4⟩, h5⟩ := h
        exact ⟨by omega, ⟨by show 0 ≤ k; omega, by show k ≤ 3; omega⟩, b1, b2, b3, fun e => absurd e c, h1, h2, fun e => by have e : k = 3 := e; show 2 ≤ l ∧ l ≤ 9; omega, h4, h5⟩
theorem rightKs_all : ∀ {ks : List Kid} {last d : Int}, rightKs last ks d = true → ∀ k ∈ ks, (last < k.at_ ∧ k.at_ ≤ 65534 ∧ k.e.kind ≠ 0) ∧ rightE k.e d = true
  | [], _, _, _, _, hk => by cases hk
  | ⟨a, e⟩ :: r, last, d, h, k, hk => by
    simp only [rightKs, rightKid, Bool.and_eq_true, decide_eq_true_eq] at h
    obtain ⟨⟨h1, h2⟩, h3⟩ := h
    rcases List.mem_cons.1 hk with rfl | hk
    · exact ⟨h1, h2⟩
    · have := rightKs_all h3 k hk
      have h1 : last < a ∧ a ≤ 65534 ∧ e.kind ≠ 0 := h1
      have h4 : a < k.at_ := this.1.1
      exact ⟨⟨by omega, this.1.2⟩, this.2⟩
theorem rightOs_mem {list : Int} : ∀ {os : List Op} {d : Int}, rightOs list os d = true → ∀ o ∈ os, rightOp list o d = true
  | [], _, _, _, ho => by cases ho
  | a :: r, d, h, o, ho => by
    simp only [rightOs, Bool.and_eq_true] at h
    rcases List.mem_cons.1 ho with rfl | ho
    · exact h.1
    · exact rightOs_mem h.2 o ho
theorem wordsOk_all : ∀ {ws : List WEdit} {last : Int}, wordsOk last ws = true → ∀ w ∈ ws, last < w.at_ ∧ w.at_ ≤ 65534 ∧ w.mask ≠ 0 ∧ withinW w.old w.mask = true ∧ withinW w.new w.mask = true
  | [], _, _, _, hw => by cases hw
  | a :: r, last, h, w, hw => by
    simp only [wordsOk, Bool.and_eq_true, decide_eq_true_eq] at h
    obtain ⟨⟨⟨h1, h2⟩, h3⟩, h4⟩ := h
    rcases List.mem_cons.1 hw with rfl | hw
    · exact ⟨h1.1, h1.2.1, h1.2.2, h2, h3⟩
    · have := wordsOk_all h4 w hw
      exact ⟨by omega, this.2⟩
inductive RightOp (list : Int) (d : Int) : Op → Prop
  | keep (n : Int) : 1 ≤ n → n ≤ 1048576 → RightOp list d ⟨0, n, [], Edit.nil⟩
  | gone (l : List Tree) : treesOk list l = true → 0 < l.length → RightOp list d ⟨1, 0, l, Edit.nil⟩
  | come (l : List Tree) : treesOk list l = true → 0 < l.length → RightOp list d ⟨2, 0, l, Edit.nil⟩
  | into (e : Edit) : rightE e d = true → e.kind ≠ 0 → 7 < list → (list = 8 ∨ e.kind = 2 ∨ e.kind = 1 ∧ e.old.kind = 1 ∧ e.new.kind = 1) → RightOp list d ⟨3, 0, [], e⟩
theorem rightOp_all {list : Int} {o : Op} {d : Int} (h : rightOp list o d = true) : RightOp list d o := by
  obtain ⟨k, n, l, e⟩ := o
  rw [rightOp] at h
  split at h
  · rename_i hk
    simp only [Bool.and_eq_true, decide_eq_true_eq] at h
    obtain ⟨⟨h1, h2, h3⟩, h4⟩ := h
    rw [hk, sameE_is h4, List.eq_nil_of_length_eq_zero h3]
    exact .keep n h1 h2
  · rename_i h0
    split at h
    · cases h
    · rename_i h1
      have hn : n = 0 := by omega
      subst hn
      split at h
      · rename_i h2
        simp only [Bool.and_eq_true, decide_eq_true_eq] at h
        obtain ⟨⟨h3, h4⟩, h5⟩ := h
        rw [sameE_is h5]
        by_cases hk : k = 1
        · rw [hk]; exact .gone l h3 h4
        · rw [show k = 2 by omega]; exact .come l h3 h4
      · rename_i h2
        simp only [Bool.and_eq_true, decide_eq_true_eq] at h
        obtain ⟨⟨⟨h3, h4, h5⟩, h6⟩, h7⟩ := h
        rw [show k = 3 by omega, List.eq_nil_of_length_eq_zero h3]
        exact .into e h6 h4 h5 h7
theorem right_kids {e : Edit} {d : Int} (h : rightE e d = true) : (∀ k ∈ e.kids, ∃ d, rightE k.e d = true) ∧ (∀ o ∈ e.ops, ∃ l d, rightOp l o d = true) ∧ (e.kind = 3 → 2 ≤ e.list ∧ e.list ≤ 9) := by
  have r := rightE_all h
  exact ⟨fun k hk => ⟨_, (rightKs_all r.kids k hk).2⟩, fun o ho => ⟨_, _, rightOs_mem r.ops o ho⟩, r.list⟩
theorem right_desc {l d : Int} {o : Op} (h : rightOp l o d = true) (hk : o.kind = 3) : rightE o.e d = true := by
  have r := rightOp_all h
  cases r with
  | into e h1 => exact h1
  | keep | gone | come => exact absurd hk (by simp)
end Go.AM

namespace Go.AM.Ytlahjnelghpmeaa
open Go.AM Go.Proofs
theorem setPad_length {α : Type} (z : α) (l : List α) (i : Nat) (x : α) : (setPad z l i x).length = max l.length (i + 1) := by
  simp only [setPad, List.length_set, List.length_append, List.length_replicate]; omega
theorem setPad_getD {α : Type} (z : α) (l : List α) (i : Nat) (x : α) (j : Nat) : (setPad z l i x).getD j z = if j = i then x else l.getD j z := by
  simp only [setPad, List.getD_eq_getElem?_getD, List.getElem?_set, List.length_append, List.length_replicate]
  by_cases h : j = i
  · subst h; rw [if_pos rfl, if_pos rfl, if_pos (by omega)]; rfl
  · rw [if_neg (fun e => h e.symm), if_neg h]
    by_cases hl : j < l.length
    · rw [List.getElem?_append_left hl]
    · rw [List.getElem?_append_right (by omega), List.getElem?_eq_none (l := l) (by omega), List.getElem?_replicate]
      split <;> rfl
theorem setPad_map {α β : Type} (f : α → β) (z : α) (l : List α) (i : Nat) (x : α) : (setPad z l i x).map f = setPad (f z) (l.map f) i (f x) := by
  simp [setPad, List.map_set]
theorem normK_map : ∀ l : List Tree, normK l = normsT l
  | [] => rfl
  | t :: r => by simp [normK, normsT, normK_map r]
theorem normsT_pad (l : List Tree) (i : Nat) (x : Tree) : normsT (setPad Tree.nil l i x) = setPad Tree.nil (normsT l) i (normT x) := by
  rw [normsT, setPad_map, normT_nil]; rfl
theorem norms_pad {a b : List Tree} {i : Nat} {x y : Tree} (h : normsT a = normsT b) (hx : normT x = normT y) : normsT (setPad Tree.nil a i x) = normsT (setPad Tree.nil b i y) := by
  rw [normsT_pad, normsT_pad, h, hx]
theorem norms_app {a b c d : List Tree} (h : normsT a = normsT b) (hx : normsT c = normsT d) : normsT (a ++ c) = normsT (b ++ d) := by
  rw [normsT_append, normsT_append, h, hx]
theorem normT_mk (k : Int) (w : List Int) {a b : List Tree} (h : normsT a = normsT b) : normT (.mk k w a) = normT (.mk k w b) := by
  simp only [normT, normK_map, h]
theorem norms_len {a b : List Tree} (h : normsT a = normsT b) : a.length = b.length := by
  have := congrArg List.length h
  simpa [normsT] using this
theorem norms_one {a b : Tree} : normsT [a] = normsT [b] ↔ normT a = normT b := by simp [normsT]
def OptR {α β : Type} (R : α → β → Prop) : Option α → Option β → Prop
  | none, none => True
  | some a, some b => R a b
  | _, _ => False
theorem OptR.rfl' {α : Type} (a : Option α) : OptR Eq a a := by cases a; exact trivial; exact rfl
theorem OptR.bind {α β γ δ : Type} {R : α → β → Prop} {S : γ → δ → Prop} {a : Option α} {b : Option β} {f : α → Option γ} {g : β → Option δ} (h : OptR R a b) (hf : ∀ x y, R x y → OptR S (f x) (g y)) : OptR S (a.bind f) (b.bind g) := by
  cases a <;> cases b <;> first | exact trivial | exact h.elim | exact hf _ _ h
theorem OptR.map {α β γ δ : Type} {R : α → β → Prop} {S : γ → δ → Prop} {a : Option α} {b : Option β} {f : α → γ} {g : β → δ} (h : OptR R a b) (hf : ∀ x y, R x y → S (f x) (g y)) : OptR S (a.map f) (b.map g) := by
  cases a <;> cases b <;> first | exact trivial | exact h.elim | exact hf _ _ h
theorem OptR.ite {α β : Type} {R : α → β → Prop} {p q : Prop} [Decidable p] [Decidable q] {a c : Option α} {b d : Option β} (h : p ↔ q) (h1 : p → OptR R a b) (h2 : ¬p → OptR R c d) : OptR R (if p then a else c) (if q then b else d) := by
  by_cases hp : p
  · rw [if_pos hp, if_pos (h.1 hp)]; exact h1 hp
  · rw [if_neg hp, if_neg (fun hq => hp (h.2 hq))]; exact h2 hp
theorem OptR.isSome {α β : Type} {R : α → β → Prop} {a : Option α} {b : Option β} (h : OptR R a b) : a.isSome = b.isSome := by
  cases a <;> cases b <;> first | rfl | exact h.elim
theorem OptR.normed {a b : Option Tree} (h : OptR (fun x y => normT x = normT y) a b) : a.map normT = b.map normT := by
  cases a <;> cases b <;> first | rfl | exact h.elim | exact congrArg some h
def Eqv (x y : Tree) : Prop := normT x = normT y
def EqvL (x y : List Tree) : Prop := normsT x = normsT y
theorem EqvL.take {x y : List Tree} (h : EqvL x y) (n : Nat) : EqvL (x.take n) (y.take n) := by unfold EqvL normsT at *; rw [List.map_take, List.map_take, h]
theorem EqvL.drop {x y : List Tree} (h : EqvL x y) (n : Nat) : EqvL (x.drop n) (y.drop n) := by unfold EqvL normsT at *; rw [List.map_drop, List.map_drop, h]
theorem EqvL.len {x y : List Tree} (h : EqvL x y) : x.length = y.length := norms_len h
theorem norms_getD (l : List Tree) (i : Nat) : (normsT l).getD i Tree.nil = normT (l.getD i Tree.nil) := by rw [← normK_map]; exact normK_getD l i
theorem EqvL.get {x y : List Tree} (h : EqvL x y) (i : Nat) : Eqv (x.getD i Tree.nil) (y.getD i Tree.nil) := by
  unfold Eqv; rw [← norms_getD, ← norms_getD, h]
theorem endD_rel {a b : Option (List Tree × List Tree)} (h : OptR (fun x y => EqvL x.1 y.1 ∧ EqvL x.2 y.2) a b) : OptR EqvL (endD a) (endD b) := by
  unfold endD
  refine h.bind fun x y hxy => ?_
  exact OptR.ite (by rw [hxy.2.len]) (fun _ => hxy.1) (fun _ => trivial)
def EqvW (a b : List Int) : Prop := ∀ i : Nat, a.getD i 0 = b.getD i 0
def EqvS (a b : List Tree) : Prop := ∀ i : Nat, Eqv (a.getD i Tree.nil) (b.getD i Tree.nil)
theorem eqv_struct {a b : Tree} (ha : a.kind = 1) (hb : b.kind = 1) : Eqv a b ↔ EqvW a.words b.words ∧ EqvS a.kids b.kids := by
  unfold Eqv EqvW EqvS
  rw [normT_eq_iff, ha, hb]
  simp [Eqv]
theorem eqv_list {a b : Tree} (h0 : a.kind ≠ 0) (h1 : a.kind ≠ 1) : Eqv a b ↔ a.kind = b.kind ∧ a.words = b.words ∧ EqvL a.kids b.kids := by
  unfold Eqv EqvL
  rw [normT_eq_iff, if_neg h1, ← normK_map, ← normK_map, normK_eq_iff]
  simp [h0, and_assoc]
theorem Eqv.kind {a b : Tree} (h : Eqv a b) : a.kind = b.kind := ((normT_eq_iff a b).1 h).1
theorem wsD_eqv {tw tv : List Int} (h : EqvW tw tv) : ∀ (ws : List WEdit) (a b : List Int), EqvW a b → OptR EqvW (wsD tw ws a) (wsD tv ws b)
  | [], _, _, hab => hab
  | w :: r, a, b, hab => by
    rw [wsD, wsD, h w.at_.toNat]
    refine OptR.ite Iff.rfl (fun _ => wsD_eqv h r _ _ fun i => ?_) (fun _ => trivial)
    rw [setPad_getD, setPad_getD]
    split
    · rfl
    · exact hab i
theorem goneD_eqv (l : List Tree) {a b : List Tree} (h : EqvL a b) : goneD l a = goneD l b := by
  unfold goneD
  rw [h.len, show normsT (a.take l.length) = normsT (b.take l.length) from h.take _]
mutual
theorem doE_eqv : ∀ (e : Edit) (d : Int) (t s : Tree), rightE e d = true → Eqv t s → OptR Eqv (doE false e t) (doE false e s)
  | .mk k o n w ks l os, d, t, s, hr, h => by
    have h1 := doKs_eqv ks t.kids s.kids
    have h2 := doOs_eqv os t.kids s.kids [] []
    have hk := h.kind
    have hrt := right_kids hr
    rw [doE_at, doE_at, nrD_false, nrD_false]
    show OptR Eqv (if k = 0 then _ else _) (if k = 0 then _ else _)
    refine OptR.ite Iff.rfl (fun _ => h) fun _ => OptR.ite Iff.rfl (fun _ => ?_) fun _ => OptR.ite Iff.rfl (fun k2 => ?_) fun _ => OptR.ite Iff.rfl (fun k3 => ?_) (fun _ => trivial)
    · rw [show normT t = normT s from h]
      exact OptR.ite Iff.rfl (fun _ => rfl) (fun _ => trivial)
    · refine OptR.ite (by rw [hk]) (fun ht => ?_) (fun _ => trivial)
      have hs : s.kind = 1 := by rw [← hk]; exact ht
      obtain ⟨hw, hks⟩ := (eqv_struct ht hs).1 h
      refine (wsD_eqv hw w t.words s.words hw).bind fun a b hab => ?_
      refine (h1 hks hrt.1 t.kids s.kids hks).map fun x y hxy => ?_
      exact (eqv_struct rfl rfl).2 ⟨hab, hxy⟩
    · refine OptR.ite (by rw [hk]) (fun ht => ?_) (fun _ => trivial)
      have hl := hrt.2.2
      have hos := hrt.2.1
      replace ht : t.kind = l := ht
      replace hl : 2 ≤ l ∧ l ≤ 9 := hl k3
      obtain ⟨_, _, hks⟩ := (eqv_list (by omega) (by omega)).1 h
      exact (endD_rel (h2 hks rfl hos)).map fun x y hxy => normT_mk _ _ hxy
theorem doKs_eqv : ∀ (ks : List (KidOf Edit)) (tk sk : List Tree), EqvS tk sk → (∀ k ∈ ks, ∃ d, rightE k.e d = true) → ∀ a b, EqvS a b → OptR EqvS (doKs false tk ks a) (doKs false sk ks b)
  | [], _, _, _, _, _, _, hab => hab
  | k :: r, tk, sk, h, hr, a, b, hab => by
    rw [doKs, doKs]
    obtain ⟨d, hd⟩ := hr k List.mem_cons_self
    refine (doKid_eqv k d tk sk h hd).bind fun x y hxy => doKs_eqv r tk sk h (fun q hq => hr q (List.mem_cons_of_mem _ hq)) _ _ fun i => ?_
    rw [setPad_getD, setPad_getD]
    split
    · exact hxy
    · exact hab i
theorem doKid_eqv : ∀ (k : KidOf Edit) (d : Int) (tk sk : List Tree), EqvS tk sk → rightE k.e d = true → OptR Eqv (doKid false tk k) (doKid false sk k)
  | ⟨a, e⟩, d, tk, sk, h, hr => by rw [doKid, doKid]; exact doE_eqv e d _ _ hr (h _)
theorem doOs_eqv : ∀ (os : List (OpOf Edit)) (rt rs a b : List Tree), EqvL rt rs → EqvL a b → (∀ o ∈ os, ∃ l d, rightOp l o d = true) → OptR (fun x y => EqvL x.1 y.1 ∧ EqvL x.2 y.2) (doOs false os rt a) (doOs false os rs b)
  | [], _, _, _, _, h, hab, _ => ⟨hab, h⟩
  | o :: r, rt, rs, a, b, h, hab, hr => by
    rw [doOs, doOs]
    refine (doOp_eqv o rt rs a b h hab (hr o List.mem_cons_self)).bind fun x y hxy => doOs_eqv r _ _ _ _ hxy.2 hxy.1 (fun q hq => hr q (List.mem_cons_of_mem _ hq))
theorem doOp_eqv : ∀ (o : OpOf Edit) (rt rs a b : List Tree), EqvL rt rs → EqvL a b → (∃ l d, rightOp l o d = true) → OptR (fun x y => EqvL x.1 y.1 ∧ EqvL x.2 y.2) (doOp false o rt a) (doOp false o rs b)
  | ⟨k, n, l, e⟩, rt, rs, a, b, h, hab, hr => by
    obtain ⟨li, d, hr⟩ := hr
    have he := fun h3 => doE_eqv e d (rt.getD 0 Tree.nil) (rs.getD 0 Tree.nil) (right_desc hr h3) (h.get 0)
    have hlen := h.len
    rw [doOp, doOp]
    refine OptR.ite Iff.rfl (fun _ => OptR.ite (by rw [hlen]) (fun _ => ⟨norms_app hab (h.take _), h.drop _⟩) (fun _ => trivial)) fun k0 => OptR.ite Iff.rfl (fun _ => ?_) fun k1 => OptR.ite Iff.rfl (fun _ => ⟨norms_app hab rfl, h⟩) fun k2 => OptR.ite (by rw [hlen]) (fun _ => trivial) fun _ => ?_
    · rw [goneD_eqv l h]
      exact OptR.ite Iff.rfl (fun _ => ⟨hab, h.drop _⟩) (fun _ => trivial)
    · have h03 : k = 0 ∨ k = 1 ∨ k = 2 ∨ k = 3 := by
        have r := rightOp_all hr
        generalize ho : OpOf.mk k n l e = o at r
        cases r <;> (injection ho with h1; subst h1; decide)
      exact (he (by show k = 3; omega)).map fun x y h' => ⟨norms_app hab (norms_one.2 h'), h.drop _⟩
end
end Go.AM.Ytlahjnelghpmeaa
