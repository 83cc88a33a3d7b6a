/- Steps side by side: what the functions of chapter 24 compute. -/
import Derived.Test.YtlahjnelghpmeaaB20c
import Derived.Test.YtlahjnelghpmeaaAmZ
import Derived.Test.YtlahjnelghpmeaaD20
set_option linter.unusedSimpArgs false
set_option linter.unusedVariables false
namespace Go.AM

/-- The same, as they stand. -/
noncomputable def eqX {α : Type} (a b : α) : Bool := @decide (a = b) (Classical.propDecidable _)
theorem eqX_iff {α : Type} {a b : α} : eqX a b = true ↔ a = b := by unfold eqX; exact @decide_eq_true_iff _ (Classical.propDecidable _)
@[simp] theorem eqX_self {α : Type} (a : α) : eqX a a = true := eqX_iff.2 rfl

/-! ## by definition: kid by kid -/
def unitsOp (i alone : Int) (o : Op) : List AUnit :=
  (if o.kind = 0 then List.replicate o.n.toNat ⟨i, 0, Tree.nil, Edit.nil, false⟩ else [])
    ++ (o.l.map (fun t => ⟨i, o.kind, t, Edit.nil, decide (o.kind = alone)⟩)
    ++ (if o.kind = 3 then [⟨i, 3, Tree.nil, o.e, false⟩] else []))
def opU (u : AUnit) : Op := if u.kind = 0 then ⟨0, 1, [], Edit.nil⟩ else if u.kind = 3 then ⟨3, 0, [], u.e⟩ else ⟨u.kind, 0, [u.t], Edit.nil⟩

end Go.AM

namespace Go.AM.Ytlahjnelghpmeaa
open Go.AM Go.Proofs

/-! cento/align.size -/
/-! (*cento/align.cursor).done -/
/-! (*cento/align.cursor).single -/
/-! (*cento/align.cursor).take -/
/-! cento/align.pair -/
/-! cento/align.Through -/
/-! cento/align.Behind -/
/-! cento/centoref24.Units -/
/-! cento/centoref24.Pairs -/
/-! cento/centolaw24.kids -/
/-! cento/centolaw24.units -/
/-! cento/centoref24.Op -/
/-! cento/centoref22.sameTrees -/
/-! cento/centoref22.Same -/
/-! cento/centolaw24.same -/
/-! cento/centolaw24.alike -/
/-! cento/centolaw24.steps -/
/-! cento/centolaw24.awake -/
/-! cento/centolaw24.AlignThrough -/
/-! cento/centolaw24.AlignWhole -/
/-! cento/centolaw24.AlignBehind -/
end Go.AM.Ytlahjnelghpmeaa

namespace Go.AM.Ytlahjnelghpmeaa
open Go.AM Go.Proofs


theorem opLen_eq (o : Op) : opLen o = if o.kind = 3 then 1 else o.n + o.l.length := rfl

/-! ## pair -/
end Go.AM.Ytlahjnelghpmeaa

namespace Go.AM.Ytlahjnelghpmeaa
open Go.AM Go.Proofs

/-! ## the same, as they stand -/
end Go.AM.Ytlahjnelghpmeaa

namespace Go.AM.Ytlahjnelghpmeaa
open Go.AM Go.Proofs

end Go.AM.Ytlahjnelghpmeaa

namespace Go.AM.Ytlahjnelghpmeaa
open Go.AM Go.Proofs

def vu (u : AUnit) : Op × Bool := (opU u, u.alone)
def vs (a : Int) (o : Op) : List (Op × Bool) := (unitsOp 0 a o).map vu
/-! ## pairs, by blocks -/
/-! ## the law -/
end Go.AM.Ytlahjnelghpmeaa

namespace Go.AM.Ytlahjnelghpmeaa
open Go.AM Go.Proofs

end Go.AM.Ytlahjnelghpmeaa

namespace Go.AM

def idleE (list : Int) (e : Edit) : Bool := decide (e.kind = 0 ∨ (list = 9 ∧ e.kind = 2 ∧ e.words.length = 0 ∧ e.kids.length = 0))
def normsT (l : List Tree) : List Tree := l.map normT

/-! ## how many edits and steps -/
mutual
def countE : Edit → Int
  | .mk _ _ _ w ks _ os => 1 + w.length + countKs ks + countOs os
def countKs : List (KidOf Edit) → Int
  | [] => 0
  | k :: r => countKid k + countKs r
def countKid : KidOf Edit → Int
  | ⟨_, e⟩ => countE e
def countOs : List (OpOf Edit) → Int
  | [] => 0
  | o :: r => countOp o + countOs r
def countOp : OpOf Edit → Int
  | ⟨k, _, _, e⟩ => if k = 3 then 1 + countE e else 1
end

/-! ## turned round -/
def turnW (w : WEdit) : WEdit := ⟨w.at_, w.mask, w.new, w.old⟩
mutual
def turnE : Edit → Edit
  | .mk k o n w ks l os => .mk k n o (w.map turnW) (turnKs ks) l (turnOs os)
def turnKs : List (KidOf Edit) → List (KidOf Edit)
  | [] => []
  | k :: r => turnKid k :: turnKs r
def turnKid : KidOf Edit → KidOf Edit
  | ⟨a, e⟩ => ⟨a, turnE e⟩
def turnOs : List (OpOf Edit) → List (OpOf Edit)
  | [] => []
  | o :: r => turnOp o :: turnOs r
def turnOp : OpOf Edit → OpOf Edit
  | ⟨k, n, l, e⟩ => if k = 1 then ⟨2, n, l, e⟩ else if k = 2 then ⟨1, n, l, e⟩ else if k = 3 then ⟨k, n, l, turnE e⟩ else ⟨k, n, l, e⟩
end

/-! ## what edits mean: their trees' Norms -/


end Go.AM

namespace Go.AM

/-- What is written, and what waits: deleted, and inserted, trees. -/
structure Wst where
  out : List Op
  gone : List Tree
  brought : List Tree

def flushO (out : List Op) (g b : List Tree) : List Op :=
  out ++ ((if g.length = 0 then [] else [⟨1, 0, g, Edit.nil⟩]) ++ (if b.length = 0 then [] else [⟨2, 0, b, Edit.nil⟩]))
/-- So many kids are kept: with those that are kept ahead of them, if nothing is between. -/
def keepO : List Op → Int → List Op
  | [], n => [⟨0, n, [], Edit.nil⟩]
  | [o], n => if o.kind = 0 then [⟨o.kind, o.n + n, o.l, o.e⟩] else [o, ⟨0, n, [], Edit.nil⟩]
  | o :: p :: r, n => o :: keepO (p :: r) n
def flushW (w : Wst) : Wst := ⟨flushO w.out w.gone w.brought, [], []⟩
def keepW (w : Wst) (n : Int) : Wst := ⟨keepO (flushW w).out n, [], []⟩

mutual
def nrmE : Edit → Edit
  | .mk k o n w ks l os =>
    if k = 1 then .mk k (normT o) (normT n) [] [] l []
    else if k = 2 then .mk k Tree.nil Tree.nil w (nrmKs ks) l []
    else if k = 3 then .mk k Tree.nil Tree.nil [] [] l (flushW (nrmOs l os ⟨[], [], []⟩)).out
    else .mk k Tree.nil Tree.nil [] [] l []
def nrmKs : List (KidOf Edit) → List (KidOf Edit)
  | [] => []
  | k :: r => nrmKid k :: nrmKs r
def nrmKid : KidOf Edit → KidOf Edit
  | ⟨a, e⟩ => ⟨a, nrmE e⟩
def nrmOs (list : Int) : List (OpOf Edit) → Wst → Wst
  | [], s => s
  | o :: r, s => nrmOs list r (nrmOp list o s)
def nrmOp (list : Int) : OpOf Edit → Wst → Wst
  | ⟨k, n, l, e⟩, s =>
    if k = 0 then keepW s n
    else if k = 1 then ⟨s.out, s.gone ++ normsT l, s.brought⟩
    else if k = 2 then ⟨s.out, s.gone, s.brought ++ normsT l⟩
    else if k = 3 then (if idleE list (nrmE e) = true then keepW s 1 else ⟨(flushW s).out ++ [⟨3, 0, [], nrmE e⟩], [], []⟩)
    else s
end

theorem nrmOp_at (list : Int) (o : Op) (s : Wst) : nrmOp list o s = if o.kind = 0 then keepW s o.n
    else if o.kind = 1 then ⟨s.out, s.gone ++ normsT o.l, s.brought⟩
    else if o.kind = 2 then ⟨s.out, s.gone, s.brought ++ normsT o.l⟩
    else if o.kind = 3 then (if idleE list (nrmE o.e) = true then keepW s 1 else ⟨(flushW s).out ++ [⟨3, 0, [], nrmE o.e⟩], [], []⟩)
    else s := by cases o; rfl

end Go.AM

namespace Go.AM

def badAt (list : Int) : List Tree → Int → Int
  | [], _ => -1
  | t :: r, i => if rightT (Tree.mk list [] [t]) 64 = true then badAt list r (i + 1) else i

theorem badAt_iff (list : Int) : ∀ (l : List Tree) (i : Int), 0 ≤ i → (0 ≤ badAt list l i ↔ treesOk list l = false)
  | [], i, _ => by simp [badAt, treesOk]
  | t :: r, i, hi => by
    have ih := badAt_iff list r (i + 1) (by omega)
    rw [badAt, treesOk]
    by_cases h : rightT (Tree.mk list [] [t]) 64 = true
    · rw [if_pos h, h, Bool.true_and]; exact ih
    · rw [if_neg h]
      simp only [Bool.not_eq_true] at h
      rw [h, Bool.false_and]
      exact ⟨fun _ => rfl, fun _ => hi⟩

end Go.AM

namespace Go.AM.Ytlahjnelghpmeaa
open Go.AM Go.Proofs

def args43 : ArgL (Edit × Unit) := (.cons (aEl .edit) .nil)
def pre43 (a : Edit × Unit) : Prop := massE a.1 ≤ 1000000
def mu43 (a : Edit × Unit) : Nat := massE a.1
noncomputable def res43 (a : Edit × Unit) : V U := .c (.int .i64 (countE a.1))
noncomputable def spec43 : Fs U := fs args43 (fun a => [pre43 a]) res43

/-! cento/normal.Idle -/
/-! cento/centoref22.idle -/
/-! cento/centoref22.norms -/
/-! cento/centoref22.gap -/
/-! cento/edit.Count -/
noncomputable def know43 (N : Nat) : List (FuncId × Fs U) := (43, fs args43 (fun a => [pre43 a, mu43 a < N]) res43) :: []
def lv43 : Lives U := fun i => match i with
  | 0 => ([(1, [])], [((.loc 1), [])])
  | 1 => ([(1, []), (3, [])], [((.loc 1), [])])
  | 2 => ([(1, []), (3, []), (13, []), (14, []), (15, [])], [((.loc 1), [])])
  | 3 => ([(1, []), (3, []), (13, []), (14, []), (15, []), (16, [])], [((.loc 1), [])])
  | 4 => ([(1, []), (3, []), (5, []), (13, []), (14, []), (15, [])], [((.loc 1), []), ((.loc 5), [])])
  | 5 => ([(1, []), (3, []), (13, []), (14, []), (15, [])], [((.loc 1), [])])
  | 6 => ([(1, []), (3, []), (13, []), (14, []), (15, [])], [((.loc 1), [])])
  | 7 => ([(3, []), (26, []), (27, []), (28, [])], [])
  | 8 => ([(3, []), (26, []), (27, []), (28, []), (29, [])], [])
  | 9 => ([(3, []), (7, []), (26, []), (27, []), (28, [])], [((.loc 7), [])])
  | 10 => ([(3, []), (7, []), (26, []), (27, []), (28, [])], [((.loc 7), [])])
  | 11 => ([(3, []), (7, []), (26, []), (27, []), (28, []), (36, [])], [((.loc 7), [])])
  | 12 => ([(3, []), (26, []), (27, []), (28, [])], [])
  | 13 => ([(3, []), (26, []), (27, []), (28, [])], [])
  | 14 => ([(2, [])], [])
  | _ => ([], [])
def head43_0 (e : Edit) (x3 : Int) (x15 : Int) : LSt U := (⟨[(1, .ptr (.loc 1) 0), (3, .c (.int .i64 x3)), (13, .c (.slice (U := U) .kid (Edit.kids e) .unk)), (14, .c (.int .i64 ((Edit.kids e).length : Int))), (15, .c (.int .i64 x15))], [((.loc 1), [.int .i64 (Edit.kind e), .int .i64 (Tree.kind (Edit.old e)), .slice (U := U) .u64 (Tree.words (Edit.old e)) .unk, .slice (U := U) .tree (Tree.kids (Edit.old e)) .unk, .int .i64 (Tree.kind (Edit.new e)), .slice (U := U) .u64 (Tree.words (Edit.new e)) .unk, .slice (U := U) .tree (Tree.kids (Edit.new e)) .unk, .slice (U := U) .wedit (Edit.words e) .unk, .slice (U := U) .kid (Edit.kids e) .unk, .int .i64 (Edit.list e), .slice (U := U) .op (Edit.ops e) .unk])], []⟩ : LSt U)
def head43_1 (e : Edit) (x3_a : Int) (x28_a : Int) : LSt U := (⟨[(3, .c (.int .i64 x3_a)), (26, .c (.slice (U := U) .op (Edit.ops e) .unk)), (27, .c (.int .i64 ((Edit.ops e).length : Int))), (28, .c (.int .i64 x28_a))], [], []⟩ : LSt U)
abbrev W43 (N : Nat) (e : Edit) (Q : AExit → LSt U → Prop) : Prop := awp cfg (know (know43 N)) (drawOk cfg (know (know43 N))) Try.f43.ntmps lv43 (cd Try.f43 []) (⟨[(0, .agg [.int .i64 (Edit.kind e), .int .i64 (Tree.kind (Edit.old e)), .slice (U := U) .u64 (Tree.words (Edit.old e)) .unk, .slice (U := U) .tree (Tree.kids (Edit.old e)) .unk, .int .i64 (Tree.kind (Edit.new e)), .slice (U := U) .u64 (Tree.words (Edit.new e)) .unk, .slice (U := U) .tree (Tree.kids (Edit.new e)) .unk, .slice (U := U) .wedit (Edit.words e) .unk, .slice (U := U) .kid (Edit.kids e) .unk, .int .i64 (Edit.list e), .slice (U := U) .op (Edit.ops e) .unk])], [], []⟩ : LSt U) Q
/-- the body -/
theorem vc43 (N : Nat) (e : Edit) (Q : AExit → LSt U → Prop) (h : (InR ((1 : Int) + ((Edit.words e).length : Int))) ∧ (LoopWp (awp cfg (know (know43 N)) (drawOk cfg (know (know43 N))) Try.f43.ntmps lv43 (cd Try.f43 [1, 1, 0, 1, 0, 0])) (head43_0 e ((1 : Int) + ((Edit.words e).length : Int)) 0) (AExit.inBlock 0 (seqK cfg (know (know43 N)) (drawOk cfg (know (know43 N))) Try.f43.ntmps lv43 (cd Try.f43 [1, 1, 1]) Q)))) :
    W43 N e Q := by
  have e_ : (awp cfg (know (know43 N)) (drawOk cfg (know (know43 N))) Try.f43.ntmps lv43 (cd Try.f43 []) (⟨[(0, .agg [.int .i64 (Edit.kind e), .int .i64 (Tree.kind (Edit.old e)), .slice (U := U) .u64 (Tree.words (Edit.old e)) .unk, .slice (U := U) .tree (Tree.kids (Edit.old e)) .unk, .int .i64 (Tree.kind (Edit.new e)), .slice (U := U) .u64 (Tree.words (Edit.new e)) .unk, .slice (U := U) .tree (Tree.kids (Edit.new e)) .unk, .slice (U := U) .wedit (Edit.words e) .unk, .slice (U := U) .kid (Edit.kids e) .unk, .int .i64 (Edit.list e), .slice (U := U) .op (Edit.ops e) .unk])], [], []⟩ : LSt U) Q) = (((InR ((1 : Int) + ((Edit.words e).length : Int))) ∧ ((LoopWp (awp cfg (know (know43 N)) (drawOk cfg (know (know43 N))) Try.f43.ntmps lv43 (cd Try.f43 [1, 1, 0, 1, 0, 0])) (head43_0 e ((1 : Int) + ((Edit.words e).length : Int)) 0) (AExit.inBlock 0 (seqK cfg (know (know43 N)) (drawOk cfg (know (know43 N))) Try.f43.ntmps lv43 (cd Try.f43 [1, 1, 1]) Q)))))) := by kernel_rfl
  exact e_.mpr ⟨h.1, h.2⟩
abbrev W43_l0 (N : Nat) (e : Edit) (x3 : Int) (x15 : Int) (N0 : LSt U → Prop) (Q : AExit → LSt U → Prop) : Prop := awp cfg (know (know43 N)) (drawOk cfg (know (know43 N))) Try.f43.ntmps lv43 (cd Try.f43 [1, 1, 0, 1, 0, 0]) (head43_0 e x3 x15) (AExit.then N0 (AExit.inBlock 0 (seqK cfg (know (know43 N)) (drawOk cfg (know (know43 N))) Try.f43.ntmps lv43 (cd Try.f43 [1, 1, 1]) Q)))
/-- the loop at [1, 1, 0, 1, 0] -/
theorem vc43_l0 (N : Nat) (e : Edit) (x3 : Int) (x15 : Int) (N0 : LSt U → Prop) (Q : AExit → LSt U → Prop) (h : ∀ y_1, y_1 = (List.getD (Edit.kids e) (Int.toNat x15) (KidOf.mk 0 Edit.nil)) → ∀ y_2, y_2 = ((KidOf.e y_1)) → ((decide ((x15 : Int) < ((Edit.kids e).length : Int))) = true → ((0 : Int) ≤ x15 ∧ x15 < ((Edit.kids e).length : Int)) ∧ ((pre43 (y_2, ())) ∧ (mu43 (y_2, ()) < N) ∧ (InR ((x3 : Int) + (countE y_2))) ∧ ((InR ((x15 : Int) + 1)) ∧ (N0 (head43_0 e ((x3 : Int) + (countE y_2)) ((x15 : Int) + 1)))))) ∧ ((decide ((x15 : Int) < ((Edit.kids e).length : Int))) = false → LoopWp (awp cfg (know (know43 N)) (drawOk cfg (know (know43 N))) Try.f43.ntmps lv43 (cd Try.f43 [1, 1, 1, 0, 1, 0, 0])) (head43_1 e x3 0) (AExit.inBlock 2 (seqK cfg (know (know43 N)) (drawOk cfg (know (know43 N))) Try.f43.ntmps lv43 (cd Try.f43 [1, 1, 1, 1]) Q)))) :
    W43_l0 N e x3 x15 N0 Q := by
  have e_ : (awp cfg (know (know43 N)) (drawOk cfg (know (know43 N))) Try.f43.ntmps lv43 (cd Try.f43 [1, 1, 0, 1, 0, 0]) (head43_0 e x3 x15) (AExit.then N0 (AExit.inBlock 0 (seqK cfg (know (know43 N)) (drawOk cfg (know (know43 N))) Try.f43.ntmps lv43 (cd Try.f43 [1, 1, 1]) Q)))) = (let y_1 := (List.getD (Edit.kids e) (Int.toNat x15) (KidOf.mk 0 Edit.nil)); let y_2 := (reEdit (KidOf.e y_1)); (((decide ((x15 : Int) < ((Edit.kids e).length : Int))) = true → ((0 : Int) ≤ x15 ∧ x15 < ((Edit.kids e).length : Int)) ∧ ((pre43 (y_2, ())) ∧ (mu43 (y_2, ()) < N) ∧ (InR ((x3 : Int) + (countE y_2))) ∧ ((InR ((x15 : Int) + 1)) ∧ (N0 (head43_0 e ((x3 : Int) + (countE y_2)) ((x15 : Int) + 1)))))) ∧ ((decide ((x15 : Int) < ((Edit.kids e).length : Int))) = false → (LoopWp (awp cfg (know (know43 N)) (drawOk cfg (know (know43 N))) Try.f43.ntmps lv43 (cd Try.f43 [1, 1, 1, 0, 1, 0, 0])) (head43_1 e x3 0) (AExit.inBlock 2 (seqK cfg (know (know43 N)) (drawOk cfg (know (know43 N))) Try.f43.ntmps lv43 (cd Try.f43 [1, 1, 1, 1]) Q)))))) := by kernel_rfl
  exact e_.mpr (by intro y_1 y_2; exact ⟨fun c_4 => ⟨((h y_1 rfl y_2 (reEdit_eq _)).1 c_4).1, ⟨((h y_1 rfl y_2 (reEdit_eq _)).1 c_4).2.1, ((h y_1 rfl y_2 (reEdit_eq _)).1 c_4).2.2.1, ((h y_1 rfl y_2 (reEdit_eq _)).1 c_4).2.2.2.1, ⟨((h y_1 rfl y_2 (reEdit_eq _)).1 c_4).2.2.2.2.1, ((h y_1 rfl y_2 (reEdit_eq _)).1 c_4).2.2.2.2.2⟩⟩⟩, fun c_4 => ((h y_1 rfl y_2 (reEdit_eq _)).2 c_4)⟩)
abbrev W43_l1 (N : Nat) (e : Edit) (x3_a : Int) (x28_a : Int) (N1 : LSt U → Prop) (Q : AExit → LSt U → Prop) : Prop := awp cfg (know (know43 N)) (drawOk cfg (know (know43 N))) Try.f43.ntmps lv43 (cd Try.f43 [1, 1, 1, 0, 1, 0, 0]) (head43_1 e x3_a x28_a) (AExit.then N1 (AExit.inBlock 2 (seqK cfg (know (know43 N)) (drawOk cfg (know (know43 N))) Try.f43.ntmps lv43 (cd Try.f43 [1, 1, 1, 1]) Q)))
/-- the loop at [1, 1, 1, 0, 1, 0] -/
theorem vc43_l1 (N : Nat) (e : Edit) (x3_a : Int) (x28_a : Int) (N1 : LSt U → Prop) (Q : AExit → LSt U → Prop) (h : ∀ y_1, y_1 = (List.getD (Edit.ops e) (Int.toNat x28_a) Op.nil) → ∀ y_2, y_2 = ((OpOf.e y_1)) → ((decide ((x28_a : Int) < ((Edit.ops e).length : Int))) = true → ((0 : Int) ≤ x28_a ∧ x28_a < ((Edit.ops e).length : Int)) ∧ ((InR ((x3_a : Int) + 1)) ∧ (((((OpOf.kind y_1) : Int) == 3) = true → (pre43 (y_2, ())) ∧ (mu43 (y_2, ()) < N) ∧ (InR ((((x3_a : Int) + 1) : Int) + (countE y_2))) ∧ ((InR ((x28_a : Int) + 1)) ∧ (N1 (head43_1 e ((((x3_a : Int) + 1) : Int) + (countE y_2)) ((x28_a : Int) + 1))))) ∧ ((((OpOf.kind y_1) : Int) == 3) = false → (InR ((x28_a : Int) + 1)) ∧ (N1 (head43_1 e ((x3_a : Int) + 1) ((x28_a : Int) + 1))))))) ∧ ((decide ((x28_a : Int) < ((Edit.ops e).length : Int))) = false → Q .ret (⟨[(2, .c (.int .i64 x3_a))], [], []⟩ : LSt U))) :
    W43_l1 N e x3_a x28_a N1 Q := by
  have e_ : (awp cfg (know (know43 N)) (drawOk cfg (know (know43 N))) Try.f43.ntmps lv43 (cd Try.f43 [1, 1, 1, 0, 1, 0, 0]) (head43_1 e x3_a x28_a) (AExit.then N1 (AExit.inBlock 2 (seqK cfg (know (know43 N)) (drawOk cfg (know (know43 N))) Try.f43.ntmps lv43 (cd Try.f43 [1, 1, 1, 1]) Q)))) = (let y_1 := (List.getD (Edit.ops e) (Int.toNat x28_a) Op.nil); let y_2 := (reEdit (OpOf.e y_1)); (((decide ((x28_a : Int) < ((Edit.ops e).length : Int))) = true → ((0 : Int) ≤ x28_a ∧ x28_a < ((Edit.ops e).length : Int)) ∧ ((InR ((x3_a : Int) + 1)) ∧ ((((((OpOf.kind y_1) : Int) == 3) = true → (pre43 (y_2, ())) ∧ (mu43 (y_2, ()) < N) ∧ (InR ((((x3_a : Int) + 1) : Int) + (countE y_2))) ∧ ((InR ((x28_a : Int) + 1)) ∧ (N1 (head43_1 e ((((x3_a : Int) + 1) : Int) + (countE y_2)) ((x28_a : Int) + 1))))) ∧ ((((OpOf.kind y_1) : Int) == 3) = false → (InR ((x28_a : Int) + 1)) ∧ (N1 (head43_1 e ((x3_a : Int) + 1) ((x28_a : Int) + 1)))))))) ∧ ((decide ((x28_a : Int) < ((Edit.ops e).length : Int))) = false → (Q .ret (⟨[(2, .c (.int .i64 x3_a))], [], []⟩ : LSt U))))) := by kernel_rfl
  exact e_.mpr (by intro y_1 y_2; exact ⟨fun c_5 => ⟨((h y_1 rfl y_2 (reEdit_eq _)).1 c_5).1, ⟨((h y_1 rfl y_2 (reEdit_eq _)).1 c_5).2.1, ⟨fun c_6 => ⟨(((h y_1 rfl y_2 (reEdit_eq _)).1 c_5).2.2.1 c_6).1, (((h y_1 rfl y_2 (reEdit_eq _)).1 c_5).2.2.1 c_6).2.1, (((h y_1 rfl y_2 (reEdit_eq _)).1 c_5).2.2.1 c_6).2.2.1, ⟨(((h y_1 rfl y_2 (reEdit_eq _)).1 c_5).2.2.1 c_6).2.2.2.1, (((h y_1 rfl y_2 (reEdit_eq _)).1 c_5).2.2.1 c_6).2.2.2.2⟩⟩, fun c_6 => ⟨(((h y_1 rfl y_2 (reEdit_eq _)).1 c_5).2.2.2 c_6).1, (((h y_1 rfl y_2 (reEdit_eq _)).1 c_5).2.2.2 c_6).2⟩⟩⟩⟩, fun c_5 => ((h y_1 rfl y_2 (reEdit_eq _)).2 c_5)⟩)
def Body43 (N : Nat) (e : Edit)  : Prop := awp cfg (know (know43 N)) (drawOk cfg (know (know43 N))) Try.f43.ntmps lv43 (cd Try.f43 []) (entry (args43.can (e, ())) []) (EndsQ cfg Try.f43.ntmps Try.f43.results.toList (res43 (e, ())) [])
theorem make43 (hb : ∀ (N : Nat) (e : Edit) (_ : Unit), pre43 (e, ()) → mu43 (e, ()) < N + 1 → Body43 N e) : Contract Try.prog cfg 43 spec43 :=
  contract_rec (μ := mu43) (l := []) cfgOk rfl (trivial) lv43 Try.func43 rfl rfl 1 (fun _ => rfl) (by decide) (fun N ⟨e, _⟩ => hb N e ())

/-! cento/invert.turned -/
/-! cento/invert.op -/
end Go.AM.Ytlahjnelghpmeaa

namespace Go.AM.Ytlahjnelghpmeaa
open Go.AM Go.Proofs

/-! ## counts -/
theorem countKid_e (k : Kid) : countKid k = countE k.e := by cases k; rfl
theorem countOp_e (o : Op) : countOp o = if o.kind = 3 then 1 + countE o.e else 1 := by cases o; rfl
theorem countE_at (e : Edit) : countE e = 1 + e.words.length + countKs e.kids + countOs e.ops := by cases e; rfl

mutual
theorem countE_le : ∀ (e : Edit), 1 ≤ countE e ∧ countE e ≤ massE e
  | .mk k o n w ks l os => by
    have h1 := countKs_le ks
    have h2 := countOs_le os
    simp only [countE, massE]
    omega
theorem countKs_le : ∀ (ks : List (KidOf Edit)), 0 ≤ countKs ks ∧ countKs ks ≤ massKs ks
  | [] => by simp [countKs, massKs]
  | k :: r => by
    have h1 := countKid_le k
    have h2 := countKs_le r
    simp only [countKs, massKs]
    omega
theorem countKid_le : ∀ (k : KidOf Edit), 0 ≤ countKid k ∧ countKid k ≤ massKid k
  | ⟨_, e⟩ => by
    have h1 := countE_le e
    simp only [countKid, massKid]
    omega
theorem countOs_le : ∀ (os : List (OpOf Edit)), 0 ≤ countOs os ∧ countOs os ≤ massOs os + os.length
  | [] => by simp [countOs, massOs]
  | o :: r => by
    have h1 := countOp_le o
    have h2 := countOs_le r
    simp only [countOs, massOs, List.length_cons]
    omega
theorem countOp_le : ∀ (o : OpOf Edit), 1 ≤ countOp o ∧ countOp o ≤ massOp o + 1
  | ⟨k, _, _, e⟩ => by
    have h1 := countE_le e
    simp only [countOp, massOp]
    split <;> omega
end

theorem c43 : Contract Try.prog cfg 43 spec43 := by
  refine make43 ?_
  intro N e _ hp hN
  simp only [pre43, mu43] at hp hN
  have h1 := len_massE e
  have h2 := massKs_len e.kids
  have h3 := massOs_len e.ops
  have hc := countE_le e
  have ha := countE_at e
  refine vc43 _ _ _ ?_
  refine ⟨by unfold InR; dsimp only; omega, ?_⟩
  refine loop_rule (ι := Int × Int) (fun s => head43_0 e s.1 s.2) (fun s => 1 ≤ s.1 ∧ 0 ≤ s.2 ∧ s.2 ≤ e.kids.length ∧ s.1 + countKs (e.kids.drop s.2.toNat) + countOs e.ops = countE e) (fun s => ((e.kids.length : Int) - s.2).toNat) (1 + e.words.length, 0) rfl ⟨by dsimp only; omega, by simp, by simp, by simp; omega⟩ ?_
  rintro ⟨n, i⟩ ⟨g0, g1, g2, g3⟩
  dsimp only at g0 g1 g2 g3
  refine vc43_l0 _ _ _ _ _ _ ?_
  rintro y1 hy1 y2 hy2
  (simp only [bif_tl, bif_fr, bif_tlf, bif_frf, Bool.not_eq_true', Bool.not_eq_false', decide_eq_true_eq, decide_eq_false_iff_not, beq_iff_eq, beq_eq_false_iff_ne, bne_iff_ne, ne_eq, bne_eq_false_iff_eq, Bool.or_eq_true, Bool.and_eq_true, Bool.or_eq_false_iff, Bool.and_eq_false_imp])
  have ho := countOs_le e.ops
  refine ⟨fun hi => ?_, fun hi => ?_⟩
  · have hm := massKs_mem (mem_getD (l := e.kids) (i := i.toNat) (by omega) (KidOf.mk 0 Edit.nil))
    rw [dropI g1 hi (KidOf.mk 0 Edit.nil)] at g3
    rw [← hy1] at g3 hm
    simp only [countKs, countKid_e] at g3
    rw [← hy2] at g3 hm
    have h5 := countE_le y2
    have h6 := countKs_le (e.kids.drop (i + 1).toNat)
    refine ⟨⟨g1, hi⟩, by simp only [pre43]; omega, by simp only [mu43]; omega, by unfold InR; omega, by unfold InR; omega, (n + countE y2, i + 1), rfl, ⟨by dsimp only; omega, by dsimp only; omega, by dsimp only; omega, by dsimp only; omega⟩, by dsimp only; omega⟩
  · rw [List.drop_of_length_le (by omega)] at g3
    simp only [countKs] at g3
    refine loop_rule (ι := Int × Int) (fun s => head43_1 e s.1 s.2) (fun s => 1 ≤ s.1 ∧ 0 ≤ s.2 ∧ s.2 ≤ e.ops.length ∧ s.1 + countOs (e.ops.drop s.2.toNat) = countE e) (fun s => ((e.ops.length : Int) - s.2).toNat) (n, 0) rfl ⟨by dsimp only; omega, by simp, by simp, by simp; omega⟩ ?_
    rintro ⟨m, j⟩ ⟨f0, f1, f2, f3⟩
    dsimp only at f0 f1 f2 f3
    refine vc43_l1 _ _ _ _ _ _ ?_
    rintro z1 hz1 z2 hz2
    (simp only [bif_tl, bif_fr, bif_tlf, bif_frf, Bool.not_eq_true', Bool.not_eq_false', decide_eq_true_eq, decide_eq_false_iff_not, beq_iff_eq, beq_eq_false_iff_ne, bne_iff_ne, ne_eq, bne_eq_false_iff_eq, Bool.or_eq_true, Bool.and_eq_true, Bool.or_eq_false_iff, Bool.and_eq_false_imp])
    refine ⟨fun hj => ?_, fun hj => ?_⟩
    · have hm := massOs_mem (mem_getD (l := e.ops) (i := j.toNat) (by omega) Op.nil)
      rw [dropI f1 hj Op.nil] at f3
      rw [← hz1] at f3 hm
      simp only [countOs, countOp_e] at f3
      rw [massOp_e] at hm
      rw [← hz2] at f3 hm
      have h5 := countE_le z2
      have h6 := countOs_le (e.ops.drop (j + 1).toNat)
      refine ⟨⟨f1, hj⟩, by unfold InR; split at f3 <;> omega, fun hq => ?_, fun hq => ?_⟩
      · rw [if_pos hq] at f3
        refine ⟨by simp only [pre43]; omega, by simp only [mu43]; omega, by unfold InR; omega, by unfold InR; omega, (m + 1 + countE z2, j + 1), rfl, ⟨by dsimp only; omega, by dsimp only; omega, by dsimp only; omega, by dsimp only; omega⟩, by dsimp only; omega⟩
      · rw [if_neg hq] at f3
        refine ⟨by unfold InR; omega, (m + 1, j + 1), rfl, ⟨by dsimp only; omega, by dsimp only; omega, by dsimp only; omega, by dsimp only; omega⟩, by dsimp only; omega⟩
    · rw [List.drop_of_length_le (by omega)] at f3
      simp only [countOs] at f3
      exact ends_int rfl (by show m = countE e; omega)

/-! ## turned round -/
end Go.AM.Ytlahjnelghpmeaa

namespace Go.AM.Ytlahjnelghpmeaa
open Go.AM Go.Proofs

/-! cento/centoref20.Count -/
/-! cento/centoref20.sameTrees -/
/-! cento/centoref20.Equal -/
/-! cento/centoref23.round -/
end Go.AM.Ytlahjnelghpmeaa

namespace Go.AM.Ytlahjnelghpmeaa
open Go.AM Go.Proofs

/-! ## what means the same -/
/-! ## turned round, as the document says -/
end Go.AM.Ytlahjnelghpmeaa

namespace Go.AM

/-- The bits that a mask of bytes names. -/
def widN (m : Nat) : Nat → Nat
  | 0 => 0
  | i + 1 => widN m i + if m / 2 ^ i % 2 = 1 then 255 * 2 ^ (8 * i) else 0
def widW : Nat → Nat → Nat
  | 0, _ => 0
  | k + 1, m => (if m % 2 = 1 then 255 else 0) + 256 * widW k (m / 2)
/-- What a mask names of a word. -/
def pickW : Nat → Nat → Nat → Nat
  | 0, _, _ => 0
  | k + 1, a, m => (if m % 2 = 1 then a % 256 else 0) + 256 * pickW k (a / 256) (m / 2)
def mixW : Nat → Nat → Nat → Nat → Nat
  | 0, _, _, _ => 0
  | k + 1, a, b, m => (if m % 2 = 1 then b % 256 else a % 256) + 256 * mixW k (a / 256) (b / 256) (m / 2)

theorem and_split (x y u v : Nat) (hu : u < 256) (hv : v < 256) : (u + 256 * x) &&& (v + 256 * y) = (u &&& v) + 256 * (x &&& y) := by
  have h : u &&& v < 256 := Nat.and_lt_two_pow (n := 8) u hv
  apply Nat.eq_of_testBit_eq
  intro j
  rw [Nat.add_comm u, Nat.add_comm v, Nat.add_comm (u &&& v), Nat.testBit_and]
  rw [show (256 : Nat) = 2 ^ 8 from rfl, Nat.testBit_two_pow_mul_add _ hu, Nat.testBit_two_pow_mul_add _ hv, Nat.testBit_two_pow_mul_add _ h]
  split <;> rw [Nat.testBit_and]

theorem or_split (x y u v : Nat) (hu : u < 256) (hv : v < 256) : (u + 256 * x) ||| (v + 256 * y) = (u ||| v) + 256 * (x ||| y) := by
  have h : u ||| v < 256 := Nat.or_lt_two_pow (n := 8) hu hv
  apply Nat.eq_of_testBit_eq
  intro j
  rw [Nat.add_comm u, Nat.add_comm v, Nat.add_comm (u ||| v), Nat.testBit_or]
  rw [show (256 : Nat) = 2 ^ 8 from rfl, Nat.testBit_two_pow_mul_add _ hu, Nat.testBit_two_pow_mul_add _ hv, Nat.testBit_two_pow_mul_add _ h]
  split <;> rw [Nat.testBit_or]

theorem and_wide : ∀ (k a m : Nat), a &&& widW k m = pickW k a m
  | 0, a, m => by simp [widW, pickW]
  | k + 1, a, m => by
    have e : a = a % 256 + 256 * (a / 256) := by omega
    simp only [widW, pickW]
    rw [← and_wide k (a / 256) (m / 2)]
    have h : a &&& ((if m % 2 = 1 then 255 else 0) + 256 * widW k (m / 2)) = (a % 256 + 256 * (a / 256)) &&& ((if m % 2 = 1 then 255 else 0) + 256 * widW k (m / 2)) := by rw [← e]
    rw [h, and_split _ _ _ _ (by omega) (by split <;> omega)]
    congr 1
    split
    · have := Nat.and_two_pow_sub_one_eq_mod (a % 256) 8
      simp only [show (2 : Nat) ^ 8 - 1 = 255 from rfl, show (2 : Nat) ^ 8 = 256 from rfl, Nat.mod_mod] at this
      exact this
    · simp

theorem or_pick : ∀ (k a b m n : Nat), (∀ i < k, m / 2 ^ i % 2 + n / 2 ^ i % 2 = 1) → pickW k a n ||| pickW k b m = mixW k a b m
  | 0, a, b, m, n, _ => by simp [pickW, mixW]
  | k + 1, a, b, m, n, h => by
    simp only [pickW, mixW]
    have h0 := h 0 (by omega)
    simp only [Nat.pow_zero, Nat.div_one] at h0
    rw [or_split _ _ _ _ (by split <;> omega) (by split <;> omega), or_pick k (a / 256) (b / 256) (m / 2) (n / 2) (fun i hi => by
      have := h (i + 1) (by omega)
      rw [Nat.div_div_eq_div_mul, Nat.div_div_eq_div_mul]
      rw [Nat.pow_succ, Nat.mul_comm] at this
      exact this)]
    congr 1
    by_cases hm : m % 2 = 1
    · rw [if_pos hm, if_pos hm, if_neg (by omega)]; simp
    · rw [if_neg hm, if_neg hm, if_pos (by omega)]; simp

theorem widN_eq : ∀ m : Fin 256, widN m.1 8 = widW 8 m.1 := by decide +kernel
theorem widW_not : ∀ m : Fin 256, 2 ^ 64 - 1 - widW 8 m.1 = widW 8 (255 - m.1) := by decide +kernel
theorem bits_not : ∀ m : Fin 256, ∀ i : Fin 8, m.1 / 2 ^ i.1 % 2 + (255 - m.1) / 2 ^ i.1 % 2 = 1 := by decide +kernel
theorem widW_lt : ∀ m : Fin 256, widW 8 m.1 < 2 ^ 64 := by decide +kernel

/-- Bit by bit, and byte by byte. -/
theorem mix_bits (a b m : Nat) (hm : m < 256) : (a &&& (2 ^ 64 - 1 - widN m 8)) ||| (b &&& widN m 8) = mixW 8 a b m := by
  have h1 := widN_eq ⟨m, hm⟩
  have h2 := widW_not ⟨m, hm⟩
  simp only at h1 h2
  rw [h1, h2, and_wide, and_wide]
  exact or_pick 8 a b m (255 - m) (fun i hi => bits_not ⟨m, hm⟩ ⟨i, hi⟩)

def ofK : Nat → (Nat → Nat) → Nat
  | 0, _ => 0
  | k + 1, f => f 0 + 256 * ofK k (fun i => f (i + 1))

theorem ofK_congr : ∀ (k : Nat) {f g : Nat → Nat}, (∀ i, f i = g i) → ofK k f = ofK k g
  | 0, _, _, _ => rfl
  | k + 1, f, g, h => by simp only [ofK, h 0, ofK_congr k (fun i => h (i + 1))]

theorem mixW_of : ∀ (k a b m : Nat), mixW k a b m = ofK k (fun i => if m / 2 ^ i % 2 = 1 then b / 256 ^ i % 256 else a / 256 ^ i % 256)
  | 0, _, _, _ => rfl
  | k + 1, a, b, m => by
    simp only [mixW, ofK, Nat.pow_zero, Nat.div_one]
    rw [mixW_of k, ofK_congr k (g := fun i => if m / 2 ^ (i + 1) % 2 = 1 then b / 256 ^ (i + 1) % 256 else a / 256 ^ (i + 1) % 256) (fun i => ?_)]
    rw [Nat.div_div_eq_div_mul, Nat.div_div_eq_div_mul, Nat.div_div_eq_div_mul, Nat.pow_succ', Nat.pow_succ']

theorem mixW_mix (a b m : Nat) : ((mixW 8 a b m : Nat) : Int) = mix a b m := by
  have nm : ∀ i : Nat, named (m : Int) (i : Int) = decide (m / 2 ^ i % 2 = 1) := by
    intro i
    unfold named
    rw [decide_eq_decide, Int.toNat_natCast]
    have : ((m : Int) / 2 ^ i % 2 : Int) = ((m / 2 ^ i % 2 : Nat) : Int) := by rw [Int.natCast_emod, Int.natCast_ediv, Int.natCast_pow]; rfl
    rw [this]; omega
  have by_ : ∀ (x i : Nat), byteAt (x : Int) i = ((x / 256 ^ i % 256 : Nat) : Int) := by
    intro x i
    unfold byteAt
    rw [Int.natCast_emod, Int.natCast_ediv, Int.natCast_pow]
    rfl
  have mx : ∀ i : Nat, mixAt (a : Int) (b : Int) (m : Int) i = ((if m / 2 ^ i % 2 = 1 then b / 256 ^ i % 256 else a / 256 ^ i % 256 : Nat) : Int) := by
    intro i
    unfold mixAt
    rw [nm, by_, by_]
    by_cases h : m / 2 ^ i % 2 = 1
    · rw [decide_eq_true h, if_pos rfl, if_pos h]
    · rw [decide_eq_false h, if_neg Bool.false_ne_true, if_neg h]
  rw [mixW_of]
  generalize hf : (fun i => if m / 2 ^ i % 2 = 1 then b / 256 ^ i % 256 else a / 256 ^ i % 256) = f
  have hx : ∀ i, mixAt (a : Int) (b : Int) (m : Int) i = (f i : Int) := by intro i; rw [mx, ← hf]
  have e : ofK 8 f = f 0 + 256 * (f 1 + 256 * (f 2 + 256 * (f 3 + 256 * (f 4 + 256 * (f 5 + 256 * (f 6 + 256 * (f 7 + 256 * 0))))))) := rfl
  rw [e]
  simp only [mix, of8, hx]
  omega

/-- May an edit be of a kid of such a list? -/
def withinB (list : Int) (e : Edit) : Bool :=
  if (2 ≤ list ∧ list ≤ 7) ∨ e.kind = 0 then false else if list = 8 ∨ e.kind = 2 then true else decide (e.kind = 1 ∧ e.old.kind = 1 ∧ e.new.kind = 1)

end Go.AM

namespace Go.AM.Ytlahjnelghpmeaa
open Go.AM Go.Proofs

def args134 : ArgL (Int × Unit) := (.cons (aInt .u8) .nil)
def pre134 (a : Int × Unit) : Prop := 0 ≤ a.1 ∧ a.1 < 256
noncomputable def res134 (a : Int × Unit) : V U := .c (.int .u64 ((widN (a.1).toNat 8 : Nat) : Int))
noncomputable def spec134 : Fs U := fs args134 (fun a => [pre134 a]) res134

def args127 : ArgL (Int × Int × Int × Unit) := (.cons (aInt .u64) (.cons (aInt .u64) (.cons (aInt .u8) .nil)))
def pre127 (a : Int × Int × Int × Unit) : Prop := (0 ≤ a.1 ∧ a.1 < 18446744073709551616) ∧ (0 ≤ a.2.1 ∧ a.2.1 < 18446744073709551616) ∧ (0 ≤ a.2.2.1 ∧ a.2.2.1 < 256)
noncomputable def res127 (a : Int × Int × Int × Unit) : V U := .c (.int .u64 (mix a.1 a.2.1 a.2.2.1))
noncomputable def spec127 : Fs U := fs args127 (fun a => [pre127 a]) res127

def args119 : ArgL (Tree × Unit) := (.cons (aEl .tree) .nil)
def pre119 (a : Tree × Unit) : Prop := mass a.1 ≤ 1000000 ∧ rng a.1
noncomputable def res119 (a : Tree × Unit) : V U := .c (.bool (decide (Tree.kind a.1 ≠ 10) && rightT a.1 64))
noncomputable def spec119 : Fs U := fs args119 (fun a => [pre119 a]) res119

def args137 : ArgL (Int × Tree × Unit) := (.cons (aInt .i64) (.cons (aEl .tree) .nil))
def pre137 (a : Int × Tree × Unit) : Prop := mass a.2.1 ≤ 900000 ∧ rng a.2.1 ∧ isI a.1
noncomputable def res137 (a : Int × Tree × Unit) : V U := .c (.bool (rightT (Tree.mk a.1 [] [a.2.1]) 64))
noncomputable def spec137 : Fs U := fs args137 (fun a => [pre137 a]) res137

def args138 : ArgL (Int × Edit × Unit) := (.cons (aInt .i64) (.cons (aEl .edit) .nil))
def pre138 (a : Int × Edit × Unit) : Prop := True
noncomputable def res138 (a : Int × Edit × Unit) : V U := .c (.bool (withinB a.1 a.2.1))
noncomputable def spec138 : Fs U := fs args138 (fun a => [pre138 a]) res138

def args120 : ArgL (List WEdit × Unit) := (.cons (aSl .wedit) .nil)
def pre120 (a : List WEdit × Unit) : Prop := (a.1).length ≤ 1000000 ∧ ∀ x ∈ a.1, rngW x
noncomputable def res120 (a : List WEdit × Unit) : V U := .c (.bool (wordsOk (-1) a.1))
noncomputable def spec120 : Fs U := fs args120 (fun a => [pre120 a]) res120

/-! cento/word.Wide -/
noncomputable def know134 : List (FuncId × Fs U) := []
def lv134 : Lives U := fun i => match i with
  | 0 => ([(0, [])], [])
  | 1 => ([(0, []), (3, [])], [])
  | 2 => ([(0, []), (3, []), (5, [])], [])
  | 3 => ([(0, []), (3, []), (5, []), (6, [])], [])
  | 4 => ([(0, []), (3, []), (4, []), (5, [])], [])
  | 5 => ([(0, []), (3, []), (4, []), (5, []), (12, [])], [])
  | 6 => ([(0, []), (3, []), (5, [])], [])
  | 7 => ([(0, []), (3, []), (5, [])], [])
  | 8 => ([(2, [])], [])
  | _ => ([], [])
def head134_0 (m : Int) (x3 : Int) (x5 : Int) : LSt U := (⟨[(0, .c (.int .u8 m)), (3, .c (.int .u64 x3)), (5, .c (.int .i64 x5))], [], []⟩ : LSt U)
abbrev W134 (m : Int) (Q : AExit → LSt U → Prop) : Prop := awp cfg (know know134) (drawOk cfg (know know134)) Try.f134.ntmps lv134 (cd Try.f134 []) (⟨[(0, .c (.int .u8 m))], [], []⟩ : LSt U) Q
/-- the body -/
theorem vc134 (m : Int) (Q : AExit → LSt U → Prop) (h : LoopWp (awp cfg (know know134) (drawOk cfg (know know134)) Try.f134.ntmps lv134 (cd Try.f134 [1, 1, 0, 1, 0, 0])) (head134_0 m 0 0) (AExit.inBlock 0 (seqK cfg (know know134) (drawOk cfg (know know134)) Try.f134.ntmps lv134 (cd Try.f134 [1, 1, 1]) Q))) :
    W134 m Q := by
  have e_ : (awp cfg (know know134) (drawOk cfg (know know134)) Try.f134.ntmps lv134 (cd Try.f134 []) (⟨[(0, .c (.int .u8 m))], [], []⟩ : LSt U) Q) = ((((LoopWp (awp cfg (know know134) (drawOk cfg (know know134)) Try.f134.ntmps lv134 (cd Try.f134 [1, 1, 0, 1, 0, 0])) (head134_0 m 0 0) (AExit.inBlock 0 (seqK cfg (know know134) (drawOk cfg (know know134)) Try.f134.ntmps lv134 (cd Try.f134 [1, 1, 1]) Q)))))) := by kernel_rfl
  exact e_.mpr h
abbrev W134_l0 (m : Int) (x3 : Int) (x5 : Int) (N0 : LSt U → Prop) (Q : AExit → LSt U → Prop) : Prop := awp cfg (know know134) (drawOk cfg (know know134)) Try.f134.ntmps lv134 (cd Try.f134 [1, 1, 0, 1, 0, 0]) (head134_0 m x3 x5) (AExit.then N0 (AExit.inBlock 0 (seqK cfg (know know134) (drawOk cfg (know know134)) Try.f134.ntmps lv134 (cd Try.f134 [1, 1, 1]) Q)))
/-- the loop at [1, 1, 0, 1, 0] -/
theorem vc134_l0 (m : Int) (x3 : Int) (x5 : Int) (N0 : LSt U → Prop) (Q : AExit → LSt U → Prop) (h : ((decide ((x5 : Int) < 8)) = true → ((0 : Int) ≤ x5) ∧ (((((IntKind.wrap .u8 (BitVec.ofInt (IntKind.bits .u8) (Int.fdiv m (2 ^ (min (Int.toNat x5) (IntKind.bits .u8)))) &&& BitVec.ofInt (IntKind.bits .u8) 1).toNat) : Int) == 1) = true → (InR ((8 : Int) * x5)) ∧ ((0 : Int) ≤ ((8 : Int) * x5)) ∧ ((InR ((x5 : Int) + 1)) ∧ (N0 (head134_0 m (IntKind.wrap .u64 (BitVec.ofInt (IntKind.bits .u64) x3 ||| BitVec.ofInt (IntKind.bits .u64) (IntKind.wrap .u64 ((255 : Int) * 2 ^ (min (Int.toNat ((8 : Int) * x5)) (IntKind.bits .u64))))).toNat) ((x5 : Int) + 1))))) ∧ ((((IntKind.wrap .u8 (BitVec.ofInt (IntKind.bits .u8) (Int.fdiv m (2 ^ (min (Int.toNat x5) (IntKind.bits .u8)))) &&& BitVec.ofInt (IntKind.bits .u8) 1).toNat) : Int) == 1) = false → (InR ((x5 : Int) + 1)) ∧ (N0 (head134_0 m x3 ((x5 : Int) + 1)))))) ∧ ((decide ((x5 : Int) < 8)) = false → Q .ret (⟨[(2, .c (.int .u64 x3))], [], []⟩ : LSt U))) :
    W134_l0 m x3 x5 N0 Q := by
  have e_ : (awp cfg (know know134) (drawOk cfg (know know134)) Try.f134.ntmps lv134 (cd Try.f134 [1, 1, 0, 1, 0, 0]) (head134_0 m x3 x5) (AExit.then N0 (AExit.inBlock 0 (seqK cfg (know know134) (drawOk cfg (know know134)) Try.f134.ntmps lv134 (cd Try.f134 [1, 1, 1]) Q)))) = ((((decide ((x5 : Int) < 8)) = true → (((0 : Int) ≤ x5) ∧ (((((IntKind.wrap .u8 (BitVec.ofInt (IntKind.bits .u8) (Int.fdiv m (2 ^ (min (Int.toNat x5) (IntKind.bits .u8)))) &&& BitVec.ofInt (IntKind.bits .u8) 1).toNat) : Int) == 1) = true → (InR ((8 : Int) * x5)) ∧ ((0 : Int) ≤ ((8 : Int) * x5)) ∧ ((InR ((x5 : Int) + 1)) ∧ (N0 (head134_0 m (IntKind.wrap .u64 (BitVec.ofInt (IntKind.bits .u64) x3 ||| BitVec.ofInt (IntKind.bits .u64) (IntKind.wrap .u64 ((255 : Int) * 2 ^ (min (Int.toNat ((8 : Int) * x5)) (IntKind.bits .u64))))).toNat) ((x5 : Int) + 1))))) ∧ ((((IntKind.wrap .u8 (BitVec.ofInt (IntKind.bits .u8) (Int.fdiv m (2 ^ (min (Int.toNat x5) (IntKind.bits .u8)))) &&& BitVec.ofInt (IntKind.bits .u8) 1).toNat) : Int) == 1) = false → (InR ((x5 : Int) + 1)) ∧ (N0 (head134_0 m x3 ((x5 : Int) + 1))))))) ∧ ((decide ((x5 : Int) < 8)) = false → (Q .ret (⟨[(2, .c (.int .u64 x3))], [], []⟩ : LSt U))))) := by kernel_rfl
  exact e_.mpr ⟨fun c_1 => ⟨(h.1 c_1).1, ⟨fun c_2 => ⟨((h.1 c_1).2.1 c_2).1, ((h.1 c_1).2.1 c_2).2.1, ⟨((h.1 c_1).2.1 c_2).2.2.1, ((h.1 c_1).2.1 c_2).2.2.2⟩⟩, fun c_2 => ⟨((h.1 c_1).2.2 c_2).1, ((h.1 c_1).2.2 c_2).2⟩⟩⟩, fun c_1 => (h.2 c_1)⟩
def Body134 (m : Int)  : Prop := awp cfg (know (know134)) (drawOk cfg (know (know134))) Try.f134.ntmps lv134 (cd Try.f134 []) (entry (args134.can (m, ())) []) (EndsQ cfg Try.f134.ntmps Try.f134.results.toList (res134 (m, ())) [])
theorem make134 (hb : ∀ (m : Int) (_ : Unit), pre134 (m, ()) → Body134 m) : Contract Try.prog cfg 134 spec134 :=
  contract_flat (l := []) cfgOk rfl (trivial) lv134 Try.func134 rfl rfl 1 (fun _ => rfl) (by decide) (fun ⟨m, _⟩ => hb m ())

/-! cento/word.Mix -/
noncomputable def know127 : List (FuncId × Fs U) := [(134, spec134)]
def lv127 : Lives U := fun i => match i with
  | 0 => ([(0, []), (1, []), (2, [])], [])
  | 1 => ([(6, [])], [])
  | _ => ([], [])
abbrev W127 (a : Int) (b : Int) (m : Int) (Q : AExit → LSt U → Prop) : Prop := awp cfg (know know127) (drawOk cfg (know know127)) Try.f127.ntmps lv127 (cd Try.f127 []) (⟨[(0, .c (.int .u64 a)), (1, .c (.int .u64 b)), (2, .c (.int .u8 m))], [], []⟩ : LSt U) Q
/-- the body -/
theorem vc127 (a : Int) (b : Int) (m : Int) (Q : AExit → LSt U → Prop) (h : (pre134 (m, ())) ∧ (pre134 (m, ())) ∧ (Q .ret (⟨[(6, .c (.int .u64 (IntKind.wrap .u64 (BitVec.ofInt (IntKind.bits .u64) (IntKind.wrap .u64 (BitVec.ofInt (IntKind.bits .u64) a &&& ~~~(BitVec.ofInt (IntKind.bits .u64) ((widN (m).toNat 8 : Nat) : Int))).toNat) ||| BitVec.ofInt (IntKind.bits .u64) (IntKind.wrap .u64 (BitVec.ofInt (IntKind.bits .u64) b &&& BitVec.ofInt (IntKind.bits .u64) ((widN (m).toNat 8 : Nat) : Int)).toNat)).toNat)))], [], []⟩ : LSt U))) :
    W127 a b m Q := by
  have e_ : (awp cfg (know know127) (drawOk cfg (know know127)) Try.f127.ntmps lv127 (cd Try.f127 []) (⟨[(0, .c (.int .u64 a)), (1, .c (.int .u64 b)), (2, .c (.int .u8 m))], [], []⟩ : LSt U) Q) = (((pre134 (m, ())) ∧ (pre134 (m, ())) ∧ (Q .ret (⟨[(6, .c (.int .u64 (IntKind.wrap .u64 (BitVec.ofInt (IntKind.bits .u64) (IntKind.wrap .u64 (BitVec.ofInt (IntKind.bits .u64) a &&& ~~~(BitVec.ofInt (IntKind.bits .u64) ((widN (m).toNat 8 : Nat) : Int))).toNat) ||| BitVec.ofInt (IntKind.bits .u64) (IntKind.wrap .u64 (BitVec.ofInt (IntKind.bits .u64) b &&& BitVec.ofInt (IntKind.bits .u64) ((widN (m).toNat 8 : Nat) : Int)).toNat)).toNat)))], [], []⟩ : LSt U)))) := by kernel_rfl
  exact e_.mpr ⟨h.1, h.2.1, h.2.2⟩
def Body127 (a : Int) (b : Int) (m : Int)  : Prop := awp cfg (know (know127)) (drawOk cfg (know (know127))) Try.f127.ntmps lv127 (cd Try.f127 []) (entry (args127.can (a, b, m, ())) []) (EndsQ cfg Try.f127.ntmps Try.f127.results.toList (res127 (a, b, m, ())) [])
theorem make127 (c134 : Contract Try.prog cfg 134 spec134) (hb : ∀ (a : Int) (b : Int) (m : Int) (_ : Unit), pre127 (a, b, m, ()) → Body127 a b m) : Contract Try.prog cfg 127 spec127 :=
  contract_flat (l := [(134, spec134)]) cfgOk rfl (⟨c134, trivial⟩) lv127 Try.func127 rfl rfl 3 (fun _ => rfl) (by decide) (fun ⟨a, b, m, _⟩ => hb a b m ())

/-! cento/edit.value -/
noncomputable def know119 : List (FuncId × Fs U) := [(46, spec46)]
def lv119 : Lives U := fun i => match i with
  | 0 => ([(1, [])], [((.loc 1), [])])
  | 1 => ([(2, [])], [])
  | _ => ([], [])
abbrev W119 (t : Tree) (Q : AExit → LSt U → Prop) : Prop := awp cfg (know know119) (drawOk cfg (know know119)) Try.f119.ntmps lv119 (cd Try.f119 []) (⟨[(0, .agg [.int .i64 (Tree.kind t), .slice (U := U) .u64 (Tree.words t) .unk, .slice (U := U) .tree (Tree.kids t) .unk])], [], []⟩ : LSt U) Q
/-- the body -/
theorem vc119 (t : Tree) (Q : AExit → LSt U → Prop) (h : ((((Tree.kind t) : Int) != 10) = true → pre46 ((Tree.mk (Tree.kind t) (Tree.words t) (Tree.kids t)), ())) ∧ (Q .ret (⟨[(2, .c (.bool (bif (((Tree.kind t) : Int) != 10) then (rightT (Tree.mk (Tree.kind t) (Tree.words t) (Tree.kids t)) 64) else false)))], [], []⟩ : LSt U))) :
    W119 t Q := by
  have e_ : (awp cfg (know know119) (drawOk cfg (know know119)) Try.f119.ntmps lv119 (cd Try.f119 []) (⟨[(0, .agg [.int .i64 (Tree.kind t), .slice (U := U) .u64 (Tree.words t) .unk, .slice (U := U) .tree (Tree.kids t) .unk])], [], []⟩ : LSt U) Q) = ((((((Tree.kind t) : Int) != 10) = true → (((Tree.kind t) : Int) != 10) = true) ∧ ((((Tree.kind t) : Int) != 10) = true → pre46 ((Tree.mk (Tree.kind t) (Tree.words t) (Tree.kids t)), ())) ∧ (((((Tree.kind t) : Int) != 10) = true → (((Tree.kind t) : Int) != 10) = true)) ∧ (Q .ret (⟨[(2, .c (.bool (bif (((Tree.kind t) : Int) != 10) then (rightT (Tree.mk (Tree.kind t) (Tree.words t) (Tree.kids t)) 64) else false)))], [], []⟩ : LSt U)))) := by kernel_rfl
  exact e_.mpr ⟨fun x => x, h.1, (by generalize (((Tree.kind t) : Int) != 10) = b0; revert b0; decide), h.2⟩
def Body119 (t : Tree)  : Prop := awp cfg (know (know119)) (drawOk cfg (know (know119))) Try.f119.ntmps lv119 (cd Try.f119 []) (entry (args119.can (t, ())) []) (EndsQ cfg Try.f119.ntmps Try.f119.results.toList (res119 (t, ())) [])
theorem make119 (c46 : Contract Try.prog cfg 46 spec46) (hb : ∀ (t : Tree) (_ : Unit), pre119 (t, ()) → Body119 t) : Contract Try.prog cfg 119 spec119 :=
  contract_flat (l := [(46, spec46)]) cfgOk rfl (⟨c46, trivial⟩) lv119 Try.func119 rfl rfl 1 (fun _ => rfl) (by decide) (fun ⟨t, _⟩ => hb t ())

/-! cento/edit.kid -/
noncomputable def know137 : List (FuncId × Fs U) := [(46, spec46)]
def lv137 : Lives U := fun i => match i with
  | 0 => ([(0, []), (3, [])], [((.loc 3), [])])
  | 1 => ([(4, [])], [])
  | _ => ([], [])
abbrev W137 (list : Int) (t : Tree) (Q : AExit → LSt U → Prop) : Prop := awp cfg (know know137) (drawOk cfg (know know137)) Try.f137.ntmps lv137 (cd Try.f137 []) (⟨[(0, .c (.int .i64 list)), (1, .agg [.int .i64 (Tree.kind t), .slice (U := U) .u64 (Tree.words t) .unk, .slice (U := U) .tree (Tree.kids t) .unk])], [], []⟩ : LSt U) Q
/-- the body -/
theorem vc137 (list : Int) (t : Tree) (Q : AExit → LSt U → Prop) (h : (pre46 ((Tree.mk list ([]) ([(Tree.mk (Tree.kind t) (Tree.words t) (Tree.kids t))])), ())) ∧ (Q .ret (⟨[(4, .c (.bool (rightT (Tree.mk list ([]) ([(Tree.mk (Tree.kind t) (Tree.words t) (Tree.kids t))])) 64)))], [], []⟩ : LSt U))) :
    W137 list t Q := by
  have e_ : (awp cfg (know know137) (drawOk cfg (know know137)) Try.f137.ntmps lv137 (cd Try.f137 []) (⟨[(0, .c (.int .i64 list)), (1, .agg [.int .i64 (Tree.kind t), .slice (U := U) .u64 (Tree.words t) .unk, .slice (U := U) .tree (Tree.kids t) .unk])], [], []⟩ : LSt U) Q) = (((pre46 ((Tree.mk list ([]) ([(Tree.mk (Tree.kind t) (Tree.words t) (Tree.kids t))])), ())) ∧ (Q .ret (⟨[(4, .c (.bool (rightT (Tree.mk list ([]) ([(Tree.mk (Tree.kind t) (Tree.words t) (Tree.kids t))])) 64)))], [], []⟩ : LSt U)))) := by kernel_rfl
  exact e_.mpr ⟨h.1, h.2⟩
def Body137 (list : Int) (t : Tree)  : Prop := awp cfg (know (know137)) (drawOk cfg (know (know137))) Try.f137.ntmps lv137 (cd Try.f137 []) (entry (args137.can (list, t, ())) []) (EndsQ cfg Try.f137.ntmps Try.f137.results.toList (res137 (list, t, ())) [])
theorem make137 (c46 : Contract Try.prog cfg 46 spec46) (hb : ∀ (list : Int) (t : Tree) (_ : Unit), pre137 (list, t, ()) → Body137 list t) : Contract Try.prog cfg 137 spec137 :=
  contract_flat (l := [(46, spec46)]) cfgOk rfl (⟨c46, trivial⟩) lv137 Try.func137 rfl rfl 2 (fun _ => rfl) (by decide) (fun ⟨list, t, _⟩ => hb list t ())

/-! cento/edit.within -/
noncomputable def know138 : List (FuncId × Fs U) := [(49, spec49)]
def lv138 : Lives U := fun i => match i with
  | 0 => ([(0, []), (3, [])], [((.loc 3), [])])
  | 1 => ([(0, []), (3, []), (5, [])], [((.loc 3), [])])
  | 2 => ([(4, [])], [])
  | 3 => ([(3, []), (13, [])], [((.loc 3), [])])
  | 4 => ([(4, [])], [])
  | 5 => ([(4, [])], [])
  | _ => ([], [])
abbrev W138 (list : Int) (e : Edit) (Q : AExit → LSt U → Prop) : Prop := awp cfg (know know138) (drawOk cfg (know know138)) Try.f138.ntmps lv138 (cd Try.f138 []) (⟨[(0, .c (.int .i64 list)), (1, .agg [.int .i64 (Edit.kind e), .int .i64 (Tree.kind (Edit.old e)), .slice (U := U) .u64 (Tree.words (Edit.old e)) .unk, .slice (U := U) .tree (Tree.kids (Edit.old e)) .unk, .int .i64 (Tree.kind (Edit.new e)), .slice (U := U) .u64 (Tree.words (Edit.new e)) .unk, .slice (U := U) .tree (Tree.kids (Edit.new e)) .unk, .slice (U := U) .wedit (Edit.words e) .unk, .slice (U := U) .kid (Edit.kids e) .unk, .int .i64 (Edit.list e), .slice (U := U) .op (Edit.ops e) .unk])], [], []⟩ : LSt U) Q
/-- the body -/
theorem vc138 (list : Int) (e : Edit) (Q : AExit → LSt U → Prop) (h : (pre49 (list, ())) ∧ (((bif (decide (2 ≤ list ∧ list ≤ 7)) then true else (((Edit.kind e) : Int) == 0)) = true → Q .ret (⟨[(4, .c (.bool false))], [], []⟩ : LSt U)) ∧ ((bif (decide (2 ≤ list ∧ list ≤ 7)) then true else (((Edit.kind e) : Int) == 0)) = false → ((bif ((list : Int) == 8) then true else (((Edit.kind e) : Int) == 2)) = true → Q .ret (⟨[(4, .c (.bool true))], [], []⟩ : LSt U)) ∧ ((bif ((list : Int) == 8) then true else (((Edit.kind e) : Int) == 2)) = false → Q .ret (⟨[(4, .c (.bool (bif (bif (((Edit.kind e) : Int) == 1) then (((Tree.kind (Edit.old e)) : Int) == 1) else false) then (((Tree.kind (Edit.new e)) : Int) == 1) else false)))], [], []⟩ : LSt U))))) :
    W138 list e Q := by
  have e_ : (awp cfg (know know138) (drawOk cfg (know know138)) Try.f138.ntmps lv138 (cd Try.f138 []) (⟨[(0, .c (.int .i64 list)), (1, .agg [.int .i64 (Edit.kind e), .int .i64 (Tree.kind (Edit.old e)), .slice (U := U) .u64 (Tree.words (Edit.old e)) .unk, .slice (U := U) .tree (Tree.kids (Edit.old e)) .unk, .int .i64 (Tree.kind (Edit.new e)), .slice (U := U) .u64 (Tree.words (Edit.new e)) .unk, .slice (U := U) .tree (Tree.kids (Edit.new e)) .unk, .slice (U := U) .wedit (Edit.words e) .unk, .slice (U := U) .kid (Edit.kids e) .unk, .int .i64 (Edit.list e), .slice (U := U) .op (Edit.ops e) .unk])], [], []⟩ : LSt U) Q) = (((pre49 (list, ())) ∧ ((!(decide (2 ≤ list ∧ list ≤ 7))) = true → (!(decide (2 ≤ list ∧ list ≤ 7))) = true) ∧ ((!(decide (2 ≤ list ∧ list ≤ 7))) = true → (!(decide (2 ≤ list ∧ list ≤ 7))) = true) ∧ (((decide (2 ≤ list ∧ list ≤ 7)) = false → (!(decide (2 ≤ list ∧ list ≤ 7))) = true)) ∧ (((bif (decide (2 ≤ list ∧ list ≤ 7)) then true else (((Edit.kind e) : Int) == 0)) = true → (Q .ret (⟨[(4, .c (.bool false))], [], []⟩ : LSt U))) ∧ ((bif (decide (2 ≤ list ∧ list ≤ 7)) then true else (((Edit.kind e) : Int) == 0)) = false → ((!((list : Int) == 8)) = true → (!((list : Int) == 8)) = true) ∧ ((!((list : Int) == 8)) = true → (!((list : Int) == 8)) = true) ∧ ((((list : Int) == 8) = false → (!((list : Int) == 8)) = true)) ∧ (((bif ((list : Int) == 8) then true else (((Edit.kind e) : Int) == 2)) = true → (Q .ret (⟨[(4, .c (.bool true))], [], []⟩ : LSt U))) ∧ ((bif ((list : Int) == 8) then true else (((Edit.kind e) : Int) == 2)) = false → ((((Edit.kind e) : Int) == 1) = true → (((Edit.kind e) : Int) == 1) = true) ∧ ((((Edit.kind e) : Int) == 1) = true → (((Edit.kind e) : Int) == 1) = true) ∧ ((((Edit.kind e) : Int) == 1) = true → (((Edit.kind e) : Int) == 1) = true) ∧ (((((Edit.kind e) : Int) == 1) = true → (((Edit.kind e) : Int) == 1) = true)) ∧ ((bif (((Edit.kind e) : Int) == 1) then (((Tree.kind (Edit.old e)) : Int) == 1) else false) = true → (bif (((Edit.kind e) : Int) == 1) then (((Tree.kind (Edit.old e)) : Int) == 1) else false) = true) ∧ ((bif (((Edit.kind e) : Int) == 1) then (((Tree.kind (Edit.old e)) : Int) == 1) else false) = true → (bif (((Edit.kind e) : Int) == 1) then (((Tree.kind (Edit.old e)) : Int) == 1) else false) = true) ∧ ((bif (((Edit.kind e) : Int) == 1) then (((Tree.kind (Edit.old e)) : Int) == 1) else false) = true → (bif (((Edit.kind e) : Int) == 1) then (((Tree.kind (Edit.old e)) : Int) == 1) else false) = true) ∧ (((bif (((Edit.kind e) : Int) == 1) then (((Tree.kind (Edit.old e)) : Int) == 1) else false) = true → (bif (((Edit.kind e) : Int) == 1) then (((Tree.kind (Edit.old e)) : Int) == 1) else false) = true)) ∧ (Q .ret (⟨[(4, .c (.bool (bif (bif (((Edit.kind e) : Int) == 1) then (((Tree.kind (Edit.old e)) : Int) == 1) else false) then (((Tree.kind (Edit.new e)) : Int) == 1) else false)))], [], []⟩ : LSt U)))))))) := by kernel_rfl
  exact e_.mpr ⟨h.1, fun x => x, fun x => x, (by generalize (decide (2 ≤ list ∧ list ≤ 7)) = b0; revert b0; decide), ⟨fun c_3 => (h.2.1 c_3), fun c_3 => ⟨fun x => x, fun x => x, (by generalize ((list : Int) == 8) = b0; revert b0; decide), ⟨fun c_4 => ((h.2.2 c_3).1 c_4), fun c_4 => ⟨fun x => x, fun x => x, fun x => x, (by generalize (((Edit.kind e) : Int) == 1) = b0; revert b0; decide), fun x => x, fun x => x, fun x => x, (by generalize (((Tree.kind (Edit.old e)) : Int) == 1) = b0; generalize (((Edit.kind e) : Int) == 1) = b1; revert b0 b1; decide), ((h.2.2 c_3).2 c_4)⟩⟩⟩⟩⟩
def Body138 (list : Int) (e : Edit)  : Prop := awp cfg (know (know138)) (drawOk cfg (know (know138))) Try.f138.ntmps lv138 (cd Try.f138 []) (entry (args138.can (list, e, ())) []) (EndsQ cfg Try.f138.ntmps Try.f138.results.toList (res138 (list, e, ())) [])
theorem make138 (c49 : Contract Try.prog cfg 49 spec49) (hb : ∀ (list : Int) (e : Edit) (_ : Unit), pre138 (list, e, ()) → Body138 list e) : Contract Try.prog cfg 138 spec138 :=
  contract_flat (l := [(49, spec49)]) cfgOk rfl (⟨c49, trivial⟩) lv138 Try.func138 rfl rfl 2 (fun _ => rfl) (by decide) (fun ⟨list, e, _⟩ => hb list e ())

/-! cento/edit.words -/
noncomputable def know120 : List (FuncId × Fs U) := [(127, spec127)]
def lv120 : Lives U := fun i => match i with
  | 0 => ([(0, [])], [])
  | 1 => ([(0, []), (5, []), (6, []), (7, [])], [])
  | 2 => ([(0, []), (5, []), (6, []), (7, []), (8, [])], [])
  | 3 => ([(0, []), (3, []), (4, []), (5, []), (6, []), (7, [])], [((.loc 4), [])])
  | 4 => ([(0, []), (4, []), (5, []), (6, []), (7, []), (39, [])], [((.loc 4), [])])
  | 5 => ([(2, [])], [])
  | 6 => ([(0, []), (5, []), (6, []), (7, []), (53, [])], [])
  | 7 => ([(2, [])], [])
  | 8 => ([(0, []), (5, []), (6, []), (7, [])], [])
  | 9 => ([(2, [])], [])
  | _ => ([], [])
def head120_0 (l : List WEdit) (x7 : Int) : LSt U := (⟨[(0, .c (.slice (U := U) .wedit l .unk)), (5, .c (.slice (U := U) .wedit l .unk)), (6, .c (.int .i64 (l.length : Int))), (7, .c (.int .i64 x7))], [], []⟩ : LSt U)
abbrev W120 (l : List WEdit) (Q : AExit → LSt U → Prop) : Prop := awp cfg (know know120) (drawOk cfg (know know120)) Try.f120.ntmps lv120 (cd Try.f120 []) (⟨[(0, .c (.slice (U := U) .wedit l .unk))], [], []⟩ : LSt U) Q
/-- the body -/
theorem vc120 (l : List WEdit) (Q : AExit → LSt U → Prop) (h : LoopWp (awp cfg (know know120) (drawOk cfg (know know120)) Try.f120.ntmps lv120 (cd Try.f120 [1, 0, 1, 0, 0])) (head120_0 l 0) (AExit.inBlock 0 (seqK cfg (know know120) (drawOk cfg (know know120)) Try.f120.ntmps lv120 (cd Try.f120 [1, 1]) Q))) :
    W120 l Q := by
  have e_ : (awp cfg (know know120) (drawOk cfg (know know120)) Try.f120.ntmps lv120 (cd Try.f120 []) (⟨[(0, .c (.slice (U := U) .wedit l .unk))], [], []⟩ : LSt U) Q) = (((LoopWp (awp cfg (know know120) (drawOk cfg (know know120)) Try.f120.ntmps lv120 (cd Try.f120 [1, 0, 1, 0, 0])) (head120_0 l 0) (AExit.inBlock 0 (seqK cfg (know know120) (drawOk cfg (know know120)) Try.f120.ntmps lv120 (cd Try.f120 [1, 1]) Q))))) := by kernel_rfl
  exact e_.mpr h
abbrev W120_l0 (l : List WEdit) (x7 : Int) (N0 : LSt U → Prop) (Q : AExit → LSt U → Prop) : Prop := awp cfg (know know120) (drawOk cfg (know know120)) Try.f120.ntmps lv120 (cd Try.f120 [1, 0, 1, 0, 0]) (head120_0 l x7) (AExit.then N0 (AExit.inBlock 0 (seqK cfg (know know120) (drawOk cfg (know know120)) Try.f120.ntmps lv120 (cd Try.f120 [1, 1]) Q)))
/-- the loop at [1, 0, 1, 0] -/
theorem vc120_l0 (l : List WEdit) (x7 : Int) (N0 : LSt U → Prop) (Q : AExit → LSt U → Prop) (h : ∀ y_1, y_1 = (List.getD l (Int.toNat x7) (WEdit.mk 0 0 0 0)) → ∀ y_2, y_2 = (List.getD l (Int.toNat ((x7 : Int) - 1)) (WEdit.mk 0 0 0 0)) → ((decide ((x7 : Int) < (l.length : Int))) = true → ((0 : Int) ≤ x7 ∧ x7 < (l.length : Int)) ∧ ((((!(bif (decide (((WEdit.at_ y_1) : Int) < 0)) then true else (decide ((65535 : Int) ≤ (WEdit.at_ y_1))))) && (decide ((0 : Int) < x7))) = true → InR ((x7 : Int) - 1)) ∧ (((!(bif (decide (((WEdit.at_ y_1) : Int) < 0)) then true else (decide ((65535 : Int) ≤ (WEdit.at_ y_1))))) && (decide ((0 : Int) < x7))) = true → (0 : Int) ≤ ((x7 : Int) - 1) ∧ ((x7 : Int) - 1) < (l.length : Int)) ∧ (((bif (bif (bif (decide (((WEdit.at_ y_1) : Int) < 0)) then true else (decide ((65535 : Int) ≤ (WEdit.at_ y_1)))) then true else (bif (decide ((0 : Int) < x7)) then (decide (((WEdit.at_ y_1) : Int) ≤ (WEdit.at_ y_2))) else false)) then true else (((WEdit.mask y_1) : Int) == 0)) = true → Q .ret (⟨[(2, .c (.bool false))], [], []⟩ : LSt U)) ∧ ((bif (bif (bif (decide (((WEdit.at_ y_1) : Int) < 0)) then true else (decide ((65535 : Int) ≤ (WEdit.at_ y_1)))) then true else (bif (decide ((0 : Int) < x7)) then (decide (((WEdit.at_ y_1) : Int) ≤ (WEdit.at_ y_2))) else false)) then true else (((WEdit.mask y_1) : Int) == 0)) = false → (pre127 ((WEdit.old y_1), 0, (WEdit.mask y_1), ())) ∧ ((!(((mix (WEdit.old y_1) 0 (WEdit.mask y_1)) : Int) != 0)) = true → pre127 ((WEdit.new y_1), 0, (WEdit.mask y_1), ())) ∧ (((bif (((mix (WEdit.old y_1) 0 (WEdit.mask y_1)) : Int) != 0) then true else (((mix (WEdit.new y_1) 0 (WEdit.mask y_1)) : Int) != 0)) = true → Q .ret (⟨[(2, .c (.bool false))], [], []⟩ : LSt U)) ∧ ((bif (((mix (WEdit.old y_1) 0 (WEdit.mask y_1)) : Int) != 0) then true else (((mix (WEdit.new y_1) 0 (WEdit.mask y_1)) : Int) != 0)) = false → (InR ((x7 : Int) + 1)) ∧ (N0 (head120_0 l ((x7 : Int) + 1))))))))) ∧ ((decide ((x7 : Int) < (l.length : Int))) = false → Q .ret (⟨[(2, .c (.bool true))], [], []⟩ : LSt U))) :
    W120_l0 l x7 N0 Q := by
  have e_ : (awp cfg (know know120) (drawOk cfg (know know120)) Try.f120.ntmps lv120 (cd Try.f120 [1, 0, 1, 0, 0]) (head120_0 l x7) (AExit.then N0 (AExit.inBlock 0 (seqK cfg (know know120) (drawOk cfg (know know120)) Try.f120.ntmps lv120 (cd Try.f120 [1, 1]) Q)))) = (let y_1 := (List.getD l (Int.toNat x7) (WEdit.mk 0 0 0 0)); let y_2 := (List.getD l (Int.toNat ((x7 : Int) - 1)) (WEdit.mk 0 0 0 0)); (((decide ((x7 : Int) < (l.length : Int))) = true → ((0 : Int) ≤ x7 ∧ x7 < (l.length : Int)) ∧ (((!(decide (((WEdit.at_ y_1) : Int) < 0))) = true → (!(decide (((WEdit.at_ y_1) : Int) < 0))) = true) ∧ ((!(decide (((WEdit.at_ y_1) : Int) < 0))) = true → (!(decide (((WEdit.at_ y_1) : Int) < 0))) = true) ∧ (((decide (((WEdit.at_ y_1) : Int) < 0)) = false → (!(decide (((WEdit.at_ y_1) : Int) < 0))) = true)) ∧ ((!(bif (decide (((WEdit.at_ y_1) : Int) < 0)) then true else (decide ((65535 : Int) ≤ (WEdit.at_ y_1))))) = true → (!(bif (decide (((WEdit.at_ y_1) : Int) < 0)) then true else (decide ((65535 : Int) ≤ (WEdit.at_ y_1))))) = true) ∧ ((!(bif (decide (((WEdit.at_ y_1) : Int) < 0)) then true else (decide ((65535 : Int) ≤ (WEdit.at_ y_1))))) = true → (!(bif (decide (((WEdit.at_ y_1) : Int) < 0)) then true else (decide ((65535 : Int) ≤ (WEdit.at_ y_1))))) = true) ∧ (((!(bif (decide (((WEdit.at_ y_1) : Int) < 0)) then true else (decide ((65535 : Int) ≤ (WEdit.at_ y_1))))) && (decide ((0 : Int) < x7))) = true → ((!(bif (decide (((WEdit.at_ y_1) : Int) < 0)) then true else (decide ((65535 : Int) ≤ (WEdit.at_ y_1))))) && (decide ((0 : Int) < x7))) = true) ∧ (((!(bif (decide (((WEdit.at_ y_1) : Int) < 0)) then true else (decide ((65535 : Int) ≤ (WEdit.at_ y_1))))) && (decide ((0 : Int) < x7))) = true → InR ((x7 : Int) - 1)) ∧ (((!(bif (decide (((WEdit.at_ y_1) : Int) < 0)) then true else (decide ((65535 : Int) ≤ (WEdit.at_ y_1))))) && (decide ((0 : Int) < x7))) = true → ((!(bif (decide (((WEdit.at_ y_1) : Int) < 0)) then true else (decide ((65535 : Int) ≤ (WEdit.at_ y_1))))) && (decide ((0 : Int) < x7))) = true) ∧ (((!(bif (decide (((WEdit.at_ y_1) : Int) < 0)) then true else (decide ((65535 : Int) ≤ (WEdit.at_ y_1))))) && (decide ((0 : Int) < x7))) = true → ((!(bif (decide (((WEdit.at_ y_1) : Int) < 0)) then true else (decide ((65535 : Int) ≤ (WEdit.at_ y_1))))) && (decide ((0 : Int) < x7))) = true) ∧ (((!(bif (decide (((WEdit.at_ y_1) : Int) < 0)) then true else (decide ((65535 : Int) ≤ (WEdit.at_ y_1))))) && (decide ((0 : Int) < x7))) = true → (0 : Int) ≤ ((x7 : Int) - 1) ∧ ((x7 : Int) - 1) < (l.length : Int)) ∧ (((!(bif (decide (((WEdit.at_ y_1) : Int) < 0)) then true else (decide ((65535 : Int) ≤ (WEdit.at_ y_1))))) && (decide ((0 : Int) < x7))) = true → ((!(bif (decide (((WEdit.at_ y_1) : Int) < 0)) then true else (decide ((65535 : Int) ≤ (WEdit.at_ y_1))))) && (decide ((0 : Int) < x7))) = true) ∧ (((!(bif (decide (((WEdit.at_ y_1) : Int) < 0)) then true else (decide ((65535 : Int) ≤ (WEdit.at_ y_1))))) && (decide ((0 : Int) < x7))) = true → ((!(bif (decide (((WEdit.at_ y_1) : Int) < 0)) then true else (decide ((65535 : Int) ≤ (WEdit.at_ y_1))))) && (decide ((0 : Int) < x7))) = true) ∧ (((!(bif (decide (((WEdit.at_ y_1) : Int) < 0)) then true else (decide ((65535 : Int) ≤ (WEdit.at_ y_1))))) && (decide ((0 : Int) < x7))) = true → ((!(bif (decide (((WEdit.at_ y_1) : Int) < 0)) then true else (decide ((65535 : Int) ≤ (WEdit.at_ y_1))))) && (decide ((0 : Int) < x7))) = true) ∧ (((!(bif (decide (((WEdit.at_ y_1) : Int) < 0)) then true else (decide ((65535 : Int) ≤ (WEdit.at_ y_1))))) && (decide ((0 : Int) < x7))) = true → ((!(bif (decide (((WEdit.at_ y_1) : Int) < 0)) then true else (decide ((65535 : Int) ≤ (WEdit.at_ y_1))))) && (decide ((0 : Int) < x7))) = true) ∧ (((!(bif (decide (((WEdit.at_ y_1) : Int) < 0)) then true else (decide ((65535 : Int) ≤ (WEdit.at_ y_1))))) && (decide ((0 : Int) < x7))) = true → ((!(bif (decide (((WEdit.at_ y_1) : Int) < 0)) then true else (decide ((65535 : Int) ≤ (WEdit.at_ y_1))))) && (decide ((0 : Int) < x7))) = true) ∧ ((!(bif (decide (((WEdit.at_ y_1) : Int) < 0)) then true else (decide ((65535 : Int) ≤ (WEdit.at_ y_1))))) = true → (True → (!(bif (decide (((WEdit.at_ y_1) : Int) < 0)) then true else (decide ((65535 : Int) ≤ (WEdit.at_ y_1))))) = true)) ∧ ((!(bif (decide (((WEdit.at_ y_1) : Int) < 0)) then true else (decide ((65535 : Int) ≤ (WEdit.at_ y_1))))) = true → ((decide ((0 : Int) < x7)) = true → ((!(bif (decide (((WEdit.at_ y_1) : Int) < 0)) then true else (decide ((65535 : Int) ≤ (WEdit.at_ y_1))))) && (decide ((0 : Int) < x7))) = true)) ∧ (((bif (decide (((WEdit.at_ y_1) : Int) < 0)) then true else (decide ((65535 : Int) ≤ (WEdit.at_ y_1)))) = false → (!(bif (decide (((WEdit.at_ y_1) : Int) < 0)) then true else (decide ((65535 : Int) ≤ (WEdit.at_ y_1))))) = true)) ∧ ((!(bif (bif (decide (((WEdit.at_ y_1) : Int) < 0)) then true else (decide ((65535 : Int) ≤ (WEdit.at_ y_1)))) then true else (bif (decide ((0 : Int) < x7)) then (decide (((WEdit.at_ y_1) : Int) ≤ (WEdit.at_ y_2))) else false))) = true → (!(bif (bif (decide (((WEdit.at_ y_1) : Int) < 0)) then true else (decide ((65535 : Int) ≤ (WEdit.at_ y_1)))) then true else (bif (decide ((0 : Int) < x7)) then (decide (((WEdit.at_ y_1) : Int) ≤ (WEdit.at_ y_2))) else false))) = true) ∧ ((!(bif (bif (decide (((WEdit.at_ y_1) : Int) < 0)) then true else (decide ((65535 : Int) ≤ (WEdit.at_ y_1)))) then true else (bif (decide ((0 : Int) < x7)) then (decide (((WEdit.at_ y_1) : Int) ≤ (WEdit.at_ y_2))) else false))) = true → (!(bif (bif (decide (((WEdit.at_ y_1) : Int) < 0)) then true else (decide ((65535 : Int) ≤ (WEdit.at_ y_1)))) then true else (bif (decide ((0 : Int) < x7)) then (decide (((WEdit.at_ y_1) : Int) ≤ (WEdit.at_ y_2))) else false))) = true) ∧ (((bif (bif (decide (((WEdit.at_ y_1) : Int) < 0)) then true else (decide ((65535 : Int) ≤ (WEdit.at_ y_1)))) then true else (bif (decide ((0 : Int) < x7)) then (decide (((WEdit.at_ y_1) : Int) ≤ (WEdit.at_ y_2))) else false)) = false → (!(bif (bif (decide (((WEdit.at_ y_1) : Int) < 0)) then true else (decide ((65535 : Int) ≤ (WEdit.at_ y_1)))) then true else (bif (decide ((0 : Int) < x7)) then (decide (((WEdit.at_ y_1) : Int) ≤ (WEdit.at_ y_2))) else false))) = true)) ∧ (((bif (bif (bif (decide (((WEdit.at_ y_1) : Int) < 0)) then true else (decide ((65535 : Int) ≤ (WEdit.at_ y_1)))) then true else (bif (decide ((0 : Int) < x7)) then (decide (((WEdit.at_ y_1) : Int) ≤ (WEdit.at_ y_2))) else false)) then true else (((WEdit.mask y_1) : Int) == 0)) = true → (Q .ret (⟨[(2, .c (.bool false))], [], []⟩ : LSt U))) ∧ ((bif (bif (bif (decide (((WEdit.at_ y_1) : Int) < 0)) then true else (decide ((65535 : Int) ≤ (WEdit.at_ y_1)))) then true else (bif (decide ((0 : Int) < x7)) then (decide (((WEdit.at_ y_1) : Int) ≤ (WEdit.at_ y_2))) else false)) then true else (((WEdit.mask y_1) : Int) == 0)) = false → (pre127 ((WEdit.old y_1), 0, (WEdit.mask y_1), ())) ∧ ((!(((mix (WEdit.old y_1) 0 (WEdit.mask y_1)) : Int) != 0)) = true → (!(((mix (WEdit.old y_1) 0 (WEdit.mask y_1)) : Int) != 0)) = true) ∧ ((!(((mix (WEdit.old y_1) 0 (WEdit.mask y_1)) : Int) != 0)) = true → (!(((mix (WEdit.old y_1) 0 (WEdit.mask y_1)) : Int) != 0)) = true) ∧ ((!(((mix (WEdit.old y_1) 0 (WEdit.mask y_1)) : Int) != 0)) = true → (!(((mix (WEdit.old y_1) 0 (WEdit.mask y_1)) : Int) != 0)) = true) ∧ ((!(((mix (WEdit.old y_1) 0 (WEdit.mask y_1)) : Int) != 0)) = true → (!(((mix (WEdit.old y_1) 0 (WEdit.mask y_1)) : Int) != 0)) = true) ∧ ((!(((mix (WEdit.old y_1) 0 (WEdit.mask y_1)) : Int) != 0)) = true → pre127 ((WEdit.new y_1), 0, (WEdit.mask y_1), ())) ∧ ((!(((mix (WEdit.old y_1) 0 (WEdit.mask y_1)) : Int) != 0)) = true → (!(((mix (WEdit.old y_1) 0 (WEdit.mask y_1)) : Int) != 0)) = true) ∧ (((((mix (WEdit.old y_1) 0 (WEdit.mask y_1)) : Int) != 0) = false → (!(((mix (WEdit.old y_1) 0 (WEdit.mask y_1)) : Int) != 0)) = true)) ∧ (((bif (((mix (WEdit.old y_1) 0 (WEdit.mask y_1)) : Int) != 0) then true else (((mix (WEdit.new y_1) 0 (WEdit.mask y_1)) : Int) != 0)) = true → (Q .ret (⟨[(2, .c (.bool false))], [], []⟩ : LSt U))) ∧ ((bif (((mix (WEdit.old y_1) 0 (WEdit.mask y_1)) : Int) != 0) then true else (((mix (WEdit.new y_1) 0 (WEdit.mask y_1)) : Int) != 0)) = false → (InR ((x7 : Int) + 1)) ∧ (N0 (head120_0 l ((x7 : Int) + 1))))))))) ∧ ((decide ((x7 : Int) < (l.length : Int))) = false → (Q .ret (⟨[(2, .c (.bool true))], [], []⟩ : LSt U))))) := by kernel_rfl
  exact e_.mpr (by intro y_1 y_2; exact ⟨fun c_5 => ⟨((h y_1 rfl y_2 rfl).1 c_5).1, ⟨fun x => x, fun x => x, (by generalize (decide (((WEdit.at_ y_1) : Int) < 0)) = b0; revert b0; decide), fun x => x, fun x => x, fun x => x, ((h y_1 rfl y_2 rfl).1 c_5).2.1, fun x => x, fun x => x, ((h y_1 rfl y_2 rfl).1 c_5).2.2.1, fun x => x, fun x => x, fun x => x, fun x => x, fun x => x, (by generalize (decide ((65535 : Int) ≤ (WEdit.at_ y_1))) = b0; generalize (decide (((WEdit.at_ y_1) : Int) < 0)) = b1; revert b0 b1; decide), (by generalize (decide ((65535 : Int) ≤ (WEdit.at_ y_1))) = b0; generalize (decide (((WEdit.at_ y_1) : Int) < 0)) = b1; generalize (decide ((0 : Int) < x7)) = b2; revert b0 b1 b2; decide), (by generalize (decide ((65535 : Int) ≤ (WEdit.at_ y_1))) = b0; generalize (decide (((WEdit.at_ y_1) : Int) < 0)) = b1; revert b0 b1; decide), fun x => x, fun x => x, (by generalize (decide (((WEdit.at_ y_1) : Int) ≤ (WEdit.at_ y_2))) = b0; generalize (decide ((65535 : Int) ≤ (WEdit.at_ y_1))) = b1; generalize (decide (((WEdit.at_ y_1) : Int) < 0)) = b2; generalize (decide ((0 : Int) < x7)) = b3; revert b0 b1 b2 b3; decide), ⟨fun c_6 => (((h y_1 rfl y_2 rfl).1 c_5).2.2.2.1 c_6), fun c_6 => ⟨(((h y_1 rfl y_2 rfl).1 c_5).2.2.2.2 c_6).1, fun x => x, fun x => x, fun x => x, fun x => x, (((h y_1 rfl y_2 rfl).1 c_5).2.2.2.2 c_6).2.1, fun x => x, (by generalize (((mix (WEdit.old y_1) 0 (WEdit.mask y_1)) : Int) != 0) = b0; revert b0; decide), ⟨fun c_7 => ((((h y_1 rfl y_2 rfl).1 c_5).2.2.2.2 c_6).2.2.1 c_7), fun c_7 => ⟨((((h y_1 rfl y_2 rfl).1 c_5).2.2.2.2 c_6).2.2.2 c_7).1, ((((h y_1 rfl y_2 rfl).1 c_5).2.2.2.2 c_6).2.2.2 c_7).2⟩⟩⟩⟩⟩⟩, fun c_5 => ((h y_1 rfl y_2 rfl).2 c_5)⟩)
def Body120 (l : List WEdit)  : Prop := awp cfg (know (know120)) (drawOk cfg (know (know120))) Try.f120.ntmps lv120 (cd Try.f120 []) (entry (args120.can (l, ())) []) (EndsQ cfg Try.f120.ntmps Try.f120.results.toList (res120 (l, ())) [])
theorem make120 (c127 : Contract Try.prog cfg 127 spec127) (hb : ∀ (l : List WEdit) (_ : Unit), pre120 (l, ()) → Body120 l) : Contract Try.prog cfg 120 spec120 :=
  contract_flat (l := [(127, spec127)]) cfgOk rfl (⟨c127, trivial⟩) lv120 Try.func120 rfl rfl 1 (fun _ => rfl) (by decide) (fun ⟨l, _⟩ => hb l ())

end Go.AM.Ytlahjnelghpmeaa

namespace Go.AM.Ytlahjnelghpmeaa
open Go.AM Go.Proofs

theorem bit_of : ∀ n : Fin 256, ∀ i : Fin 8, IntKind.wrap .u8 (BitVec.ofInt (IntKind.bits .u8) (Int.fdiv (n.1 : Int) (2 ^ (min (Int.toNat (i.1 : Int)) (IntKind.bits .u8)))) &&& BitVec.ofInt (IntKind.bits .u8) 1).toNat = ((n.1 / 2 ^ i.1 % 2 : Nat) : Int) := by decide +kernel
theorem or_byte : ∀ n : Fin 256, ∀ i : Fin 8, IntKind.wrap .u64 (BitVec.ofInt (IntKind.bits .u64) ((widN n.1 i.1 : Nat) : Int) ||| BitVec.ofInt (IntKind.bits .u64) (IntKind.wrap .u64 (255 * 2 ^ (min (Int.toNat (8 * (i.1 : Int))) (IntKind.bits .u64))))).toNat = ((widN n.1 i.1 + 255 * 2 ^ (8 * i.1) : Nat) : Int) := by decide +kernel

theorem c134 : Contract Try.prog cfg 134 spec134 := by
  refine make134 ?_
  intro m _ hp
  simp only [pre134] at hp
  obtain ⟨n, rfl⟩ := Int.eq_ofNat_of_zero_le hp.1
  have hn : n < 256 := by omega
  refine vc134 _ _ ?_
  refine loop_rule (ι := Nat) (fun i => head134_0 n ((widN n i : Nat) : Int) i) (fun i => i ≤ 8) (fun i => 8 - i) 0 rfl (by omega) ?_
  intro i hi
  refine vc134_l0 _ _ _ _ _ ?_
  (simp only [bif_tl, bif_fr, bif_tlf, bif_frf, Bool.not_eq_true', Bool.not_eq_false', decide_eq_true_eq, decide_eq_false_iff_not, beq_iff_eq, beq_eq_false_iff_ne, bne_iff_ne, ne_eq, bne_eq_false_iff_eq, Bool.or_eq_true, Bool.and_eq_true, Bool.or_eq_false_iff, Bool.and_eq_false_imp])
  refine ⟨fun hc => ⟨by omega, fun hq => ⟨by unfold InR; omega, by omega, by unfold InR; omega, i + 1, ?_, by omega, by omega⟩, fun hq => ⟨by unfold InR; omega, i + 1, ?_, by omega, by omega⟩⟩, fun hc => ?_⟩
  · have h1 := bit_of ⟨n, hn⟩ ⟨i, by omega⟩
    have h2 := or_byte ⟨n, hn⟩ ⟨i, by omega⟩
    simp only at h1 h2
    rw [h1] at hq
    rw [h2]
    have e : widN n (i + 1) = widN n i + 255 * 2 ^ (8 * i) := by simp only [widN]; rw [if_pos (by omega)]
    rw [e]
    rfl
  · have h1 := bit_of ⟨n, hn⟩ ⟨i, by omega⟩
    simp only at h1
    rw [h1] at hq
    have e : widN n (i + 1) = widN n i := by simp only [widN]; rw [if_neg (by omega)]; omega
    rw [e]
    rfl
  · have : i = 8 := by omega
    subst this
    exact ends_int rfl rfl

theorem ofInt_nat (a : Nat) (h : a < 2 ^ 64) : (BitVec.ofInt 64 (a : Int)).toNat = a := by
  rw [BitVec.toNat_ofInt]
  omega

theorem c127 : Contract Try.prog cfg 127 spec127 := by
  refine make127 c134 ?_
  intro a b m _ hp
  simp only [pre127] at hp
  obtain ⟨⟨a0, a1⟩, ⟨b0, b1⟩, m0, m1⟩ := hp
  obtain ⟨x, rfl⟩ := Int.eq_ofNat_of_zero_le a0
  obtain ⟨y, rfl⟩ := Int.eq_ofNat_of_zero_le b0
  obtain ⟨n, rfl⟩ := Int.eq_ofNat_of_zero_le m0
  have hn : n < 256 := by omega
  have hx : x < 2 ^ 64 := by omega
  have hy : y < 2 ^ 64 := by omega
  have hw := widW_lt ⟨n, hn⟩
  have hw2 := widN_eq ⟨n, hn⟩
  simp only at hw hw2
  rw [← hw2] at hw
  refine vc127 _ _ _ _ ?_
  refine ⟨⟨m0, m1⟩, ⟨m0, m1⟩, ends_int rfl ?_⟩
  have em : mix x y n = (((x &&& (2 ^ 64 - 1 - widN n 8)) ||| (y &&& widN n 8) : Nat) : Int) := by rw [← mixW_mix, ← mix_bits x y n hn]
  have e1 : (BitVec.ofInt 64 (x : Int) &&& ~~~(BitVec.ofInt 64 ((widN n 8 : Nat) : Int))).toNat = x &&& (2 ^ 64 - 1 - widN n 8) := by
    rw [BitVec.toNat_and, BitVec.toNat_not, ofInt_nat x hx, ofInt_nat _ hw]
  have e2 : (BitVec.ofInt 64 (y : Int) &&& BitVec.ofInt 64 ((widN n 8 : Nat) : Int)).toNat = y &&& widN n 8 := by
    rw [BitVec.toNat_and, ofInt_nat y hy, ofInt_nat _ hw]
  have l1 : x &&& (2 ^ 64 - 1 - widN n 8) < 2 ^ 64 := Nat.lt_of_le_of_lt Nat.and_le_left hx
  have l2 : y &&& widN n 8 < 2 ^ 64 := Nat.lt_of_le_of_lt Nat.and_le_left hy
  have l3 : (x &&& (2 ^ 64 - 1 - widN n 8)) ||| (y &&& widN n 8) < 2 ^ 64 := Nat.or_lt_two_pow l1 l2
  have key : IntKind.wrap .u64 ((BitVec.ofInt 64 (IntKind.wrap .u64 ((BitVec.ofInt 64 (x : Int) &&& ~~~(BitVec.ofInt 64 ((widN n 8 : Nat) : Int))).toNat : Int)) ||| BitVec.ofInt 64 (IntKind.wrap .u64 ((BitVec.ofInt 64 (y : Int) &&& BitVec.ofInt 64 ((widN n 8 : Nat) : Int)).toNat : Int))).toNat : Int) = mix x y n := by
    have w1 : ∀ k : Nat, k < 2 ^ 64 → IntKind.wrap .u64 (k : Int) = k := fun k hk => wrap_u64 (by omega) (by omega)
    rw [e1, e2, w1 _ l1, w1 _ l2, BitVec.toNat_or, ofInt_nat _ l1, ofInt_nat _ l2, w1 _ l3, em]
  exact key

theorem c119 : Contract Try.prog cfg 119 spec119 := by
  refine make119 c46 ?_
  intro t _ hp
  refine vc119 _ _ ?_
  (simp only [Tree.eta, Edit.eta, Tree.kind_mk, Tree.words_mk, Tree.kids_mk])
  refine ⟨fun _ => hp, ends_bool rfl ?_⟩
  rw [Bool.eq_iff_iff]
  (simp only [bif_tl, bif_fr, bif_tlf, bif_frf, Bool.not_eq_true', Bool.not_eq_false', decide_eq_true_eq, decide_eq_false_iff_not, beq_iff_eq, beq_eq_false_iff_ne, bne_iff_ne, ne_eq, bne_eq_false_iff_eq, Bool.or_eq_true, Bool.and_eq_true, Bool.or_eq_false_iff, Bool.and_eq_false_imp])

theorem c137 : Contract Try.prog cfg 137 spec137 := by
  refine make137 c46 ?_
  intro list t _ hp
  simp only [pre137] at hp
  refine vc137 _ _ _ ?_
  (simp only [Tree.eta, Edit.eta, Tree.kind_mk, Tree.words_mk, Tree.kids_mk])
  refine ⟨⟨?_, ?_⟩, by (repeat' (first | exact trivial | exact rfl | refine And.intro ?_ ?_))⟩
  · simp only [mass, massK, List.length_nil]; omega
  · simp only [rng, rngK]
    have hi := hp.2.2
    unfold isI at hi
    exact ⟨hi, by simp, hp.2.1, trivial⟩

theorem c138 : Contract Try.prog cfg 138 spec138 := by
  refine make138 c49 ?_
  intro list e _ hp
  refine vc138 _ _ _ ?_
  (simp only [bif_tl, bif_fr, bif_tlf, bif_frf, Bool.not_eq_true', Bool.not_eq_false', decide_eq_true_eq, decide_eq_false_iff_not, beq_iff_eq, beq_eq_false_iff_ne, bne_iff_ne, ne_eq, bne_eq_false_iff_eq, Bool.or_eq_true, Bool.and_eq_true, Bool.or_eq_false_iff, Bool.and_eq_false_imp])
  refine ⟨trivial, fun h => ?_, fun h => ⟨fun h2 => ?_, fun h2 => ?_⟩⟩
  · exact ends_bool rfl (by show false = withinB list e; unfold withinB; rw [if_pos h])
  · exact ends_bool rfl (by show true = withinB list e; unfold withinB; rw [if_neg (by omega), if_pos h2])
  · refine ends_bool rfl ?_
    show _ = withinB list e
    unfold withinB
    rw [if_neg (by omega), if_neg (by omega), Bool.eq_iff_iff]
    (simp only [bif_tl, bif_fr, bif_tlf, bif_frf, Bool.not_eq_true', Bool.not_eq_false', decide_eq_true_eq, decide_eq_false_iff_not, beq_iff_eq, beq_eq_false_iff_ne, bne_iff_ne, ne_eq, bne_eq_false_iff_eq, Bool.or_eq_true, Bool.and_eq_true, Bool.or_eq_false_iff, Bool.and_eq_false_imp])
    omega

theorem wordsOk_cons (last : Int) (w : WEdit) (r : List WEdit) : wordsOk last (w :: r) = (decide (last < w.at_ ∧ w.at_ ≤ 65534 ∧ w.mask ≠ 0) && withinW w.old w.mask && withinW w.new w.mask && wordsOk w.at_ r) := rfl

theorem c120 : Contract Try.prog cfg 120 spec120 := by
  refine make120 c127 ?_
  intro l _ hp
  simp only [pre120] at hp
  refine vc120 _ _ ?_
  refine loop_rule (ι := Int) (fun i => head120_0 l i) (fun i => 0 ≤ i ∧ i ≤ l.length ∧ (i ≠ 0 → 0 ≤ (l.getD (i - 1).toNat (WEdit.mk 0 0 0 0)).at_) ∧ wordsOk (if i = 0 then -1 else (l.getD (i - 1).toNat (WEdit.mk 0 0 0 0)).at_) (l.drop i.toNat) = wordsOk (-1) l) (fun i => ((l.length : Int) - i).toNat) 0 rfl ⟨by omega, by omega, by simp, by simp⟩ ?_
  rintro i ⟨h1, h2, hpos, h3⟩
  refine vc120_l0 _ _ _ _ ?_
  rintro y1 hy1 y2 hy2
  (simp only [bif_tl, bif_fr, bif_tlf, bif_frf, Bool.not_eq_true', Bool.not_eq_false', decide_eq_true_eq, decide_eq_false_iff_not, beq_iff_eq, beq_eq_false_iff_ne, bne_iff_ne, ne_eq, bne_eq_false_iff_eq, Bool.or_eq_true, Bool.and_eq_true, Bool.or_eq_false_iff, Bool.and_eq_false_imp])
  refine ⟨fun hi => ?_, fun hi => ?_⟩
  · have hm := hp.2 _ (mem_getD (l := l) (i := i.toNat) (by omega) (WEdit.mk 0 0 0 0))
    rw [dropI h1 hi (WEdit.mk 0 0 0 0), wordsOk_cons] at h3
    rw [← hy1] at h3 hm
    rw [← hy2] at h3 hpos
    obtain ⟨r1, r2, r3, r4⟩ := hm
    unfold isW at r3 r4
    have hw : ∀ x : Int, withinW x y1.mask = decide (mix x 0 y1.mask = 0) := fun x => rfl
    refine ⟨⟨h1, hi⟩, fun _ => by unfold InR; omega, fun _ => ⟨by omega, by omega⟩, fun hq => ?_, fun hq => ⟨⟨r3, by dsimp only; omega, r2⟩, fun _ => ⟨r4, by dsimp only; omega, r2⟩, fun hz => ?_, fun hz => ⟨by unfold InR; omega, i + 1, rfl, ⟨by omega, by omega, fun _ => by rw [show i + 1 - 1 = i by omega, ← hy1]; omega, ?_⟩, by omega⟩⟩⟩
    · refine ends_bool rfl ?_
      show false = wordsOk (-1) l
      rw [← h3, decide_eq_false]
      · rfl
      · split <;> omega
    · refine ends_bool rfl ?_
      show false = wordsOk (-1) l
      rw [← h3, hw, hw]
      rcases hz with hz | hz
      · rw [decide_eq_false hz]; simp
      · rw [decide_eq_false hz]; simp
    · rw [if_neg (by omega), show i + 1 - 1 = i by omega, ← hy1, ← h3, hw, hw, decide_eq_true hz.1, decide_eq_true hz.2, decide_eq_true]
      · simp
      · split <;> omega
  · rw [List.drop_of_length_le (by omega)] at h3
    exact ends_bool rfl (by show true = wordsOk (-1) l; rw [← h3]; rfl)

end Go.AM.Ytlahjnelghpmeaa

namespace Go.AM.Ytlahjnelghpmeaa
open Go.AM Go.Proofs

def args136 : ArgM (Tree × (Int × Unit) × Unit) := (.cons (aEl .tree) (.obj 0 (.cons (cInt .i64) .nil) .nil))
def pre136 (a : Tree × (Int × Unit) × Unit) : Prop := mass a.1 ≤ 900000 ∧ rng a.1 ∧ isI a.2.1.1
noncomputable def res136 (a : Tree × (Int × Unit) × Unit) : V U := .c (.bool (!(rightT (Tree.mk a.2.1.1 [] [a.1]) 64)))
noncomputable def resX136 (a : Tree × (Int × Unit) × Unit) : List (List (C U)) := [[.int .i64 a.2.1.1]]
noncomputable def spec136 : Fs U := fsX args136 (fun a => [pre136 a]) res136 resX136

def args139 : ArgM (List Tree × (Int × Unit) × Unit) := (.cons (aSl .tree) (.clo 136 0 (.cons (cInt .i64) .nil) .nil))
def pre139 (a : List Tree × (Int × Unit) × Unit) : Prop := massK a.1 ≤ 900000 ∧ rngK a.1 ∧ isI a.2.1.1
noncomputable def res139 (a : List Tree × (Int × Unit) × Unit) : V U := .c (.int .i64 (badAt a.2.1.1 a.1 0))
noncomputable def resX139 (a : List Tree × (Int × Unit) × Unit) : List (List (C U)) := [[.int .i64 a.2.1.1]]
noncomputable def spec139 : Fs U := fsX args139 (fun a => [pre139 a]) res139 resX139

def args135 : ArgM (List Tree × (Int × Unit) × Unit) := (.cons (aSl .tree) (.clo 136 0 (.cons (cInt .i64) .nil) .nil))
def pre135 (a : List Tree × (Int × Unit) × Unit) : Prop := massK a.1 ≤ 900000 ∧ rngK a.1 ∧ isI a.2.1.1
noncomputable def res135 (a : List Tree × (Int × Unit) × Unit) : V U := .c (.bool (!(treesOk a.2.1.1 a.1)))
noncomputable def resX135 (a : List Tree × (Int × Unit) × Unit) : List (List (C U)) := [[.int .i64 a.2.1.1]]
noncomputable def spec135 : Fs U := fsX args135 (fun a => [pre135 a]) res135 resX135

/-! cento/edit.op$1 -/
noncomputable def know136 : List (FuncId × Fs U) := [(137, spec137)]
def lv136 : Lives U := fun i => match i with
  | 0 => ([(1, []), (2, [])], [((.loc 2), []), ((.x 0), [])])
  | 1 => ([(3, [])], [((.x 0), [])])
  | _ => ([], [])
abbrev W136 (t : Tree) (list : Int) (Q : AExit → LSt U → Prop) : Prop := awp cfg (know know136) (drawOk cfg (know know136)) Try.f136.ntmps lv136 (cd Try.f136 []) (⟨[(0, .agg [.int .i64 (Tree.kind t), .slice (U := U) .u64 (Tree.words t) .unk, .slice (U := U) .tree (Tree.kids t) .unk]), (1, .ptr (.x 0) 0)], [((.x 0), [.int .i64 list])], []⟩ : LSt U) Q
/-- the body -/
theorem vc136 (t : Tree) (list : Int) (Q : AExit → LSt U → Prop) (h : (pre137 (list, (Tree.mk (Tree.kind t) (Tree.words t) (Tree.kids t)), ())) ∧ (Q .ret (⟨[(3, .c (.bool (!(rightT (Tree.mk list [] [(Tree.mk (Tree.kind t) (Tree.words t) (Tree.kids t))]) 64))))], [((.x 0), [.int .i64 list])], []⟩ : LSt U))) :
    W136 t list Q := by
  have e_ : (awp cfg (know know136) (drawOk cfg (know know136)) Try.f136.ntmps lv136 (cd Try.f136 []) (⟨[(0, .agg [.int .i64 (Tree.kind t), .slice (U := U) .u64 (Tree.words t) .unk, .slice (U := U) .tree (Tree.kids t) .unk]), (1, .ptr (.x 0) 0)], [((.x 0), [.int .i64 list])], []⟩ : LSt U) Q) = (((pre137 (list, (Tree.mk (Tree.kind t) (Tree.words t) (Tree.kids t)), ())) ∧ (Q .ret (⟨[(3, .c (.bool (!(rightT (Tree.mk list [] [(Tree.mk (Tree.kind t) (Tree.words t) (Tree.kids t))]) 64))))], [((.x 0), [.int .i64 list])], []⟩ : LSt U)))) := by kernel_rfl
  exact e_.mpr ⟨h.1, h.2⟩
def Body136 (t : Tree) (list : Int)  : Prop := awp cfg (know (know136)) (drawOk cfg (know (know136))) Try.f136.ntmps lv136 (cd Try.f136 []) (entry (args136.can (t, (list, ()), ())) (args136.canX (t, (list, ()), ()))) (EndsQ cfg Try.f136.ntmps Try.f136.results.toList (res136 (t, (list, ()), ())) (resX136 (t, (list, ()), ())))
theorem make136 (c137 : Contract Try.prog cfg 137 spec137) (hb : ∀ (t : Tree) (list : Int) (_ : Unit), pre136 (t, (list, ()), ()) → Body136 t list) : Contract Try.prog cfg 136 spec136 :=
  contractX_flat (l := [(137, spec137)]) cfgOk rfl (⟨c137, trivial⟩) lv136 Try.func136 rfl rfl 2 (fun _ => rfl) (by decide) (fun ⟨t, ⟨list, _⟩, _⟩ => hb t list ())

/-! slices.IndexFunc[[]cento/api.Tree,cento/api.Tree] -/
noncomputable def know139 : List (FuncId × Fs U) := [(136, spec136)]
def lv139 : Lives U := fun i => match i with
  | 0 => ([(0, []), (1, [])], [((.x 0), [])])
  | 1 => ([(0, []), (1, []), (7, []), (8, [])], [((.x 0), [])])
  | 2 => ([(0, []), (1, []), (7, []), (8, []), (9, [])], [((.x 0), [])])
  | 3 => ([(0, []), (1, []), (5, []), (7, []), (8, [])], [((.x 0), [])])
  | 4 => ([(0, []), (1, []), (5, []), (7, []), (8, []), (16, [])], [((.x 0), [])])
  | 5 => ([(4, [])], [((.x 0), [])])
  | 6 => ([(0, []), (1, []), (7, []), (8, [])], [((.x 0), [])])
  | 7 => ([(4, [])], [((.x 0), [])])
  | _ => ([], [])
def head139_0 (l : List Tree) (list : Int) (x8 : Int) : LSt U := (⟨[(0, .c (.slice (U := U) .tree l .unk)), (1, .clo 136 [(.x 0)]), (7, .c (.int .i64 (l.length : Int))), (8, .c (.int .i64 x8))], [((.x 0), [.int .i64 list])], []⟩ : LSt U)
abbrev W139 (l : List Tree) (list : Int) (Q : AExit → LSt U → Prop) : Prop := awp cfg (know know139) (drawOk cfg (know know139)) Try.f139.ntmps lv139 (cd Try.f139 []) (⟨[(0, .c (.slice (U := U) .tree l .unk)), (1, .clo 136 [(.x 0)])], [((.x 0), [.int .i64 list])], []⟩ : LSt U) Q
/-- the body -/
theorem vc139 (l : List Tree) (list : Int) (Q : AExit → LSt U → Prop) (h : LoopWp (awp cfg (know know139) (drawOk cfg (know know139)) Try.f139.ntmps lv139 (cd Try.f139 [1, 0, 1, 0, 0])) (head139_0 l list 0) (AExit.inBlock 0 (seqK cfg (know know139) (drawOk cfg (know know139)) Try.f139.ntmps lv139 (cd Try.f139 [1, 1]) Q))) :
    W139 l list Q := by
  have e_ : (awp cfg (know know139) (drawOk cfg (know know139)) Try.f139.ntmps lv139 (cd Try.f139 []) (⟨[(0, .c (.slice (U := U) .tree l .unk)), (1, .clo 136 [(.x 0)])], [((.x 0), [.int .i64 list])], []⟩ : LSt U) Q) = (((LoopWp (awp cfg (know know139) (drawOk cfg (know know139)) Try.f139.ntmps lv139 (cd Try.f139 [1, 0, 1, 0, 0])) (head139_0 l list 0) (AExit.inBlock 0 (seqK cfg (know know139) (drawOk cfg (know know139)) Try.f139.ntmps lv139 (cd Try.f139 [1, 1]) Q))))) := by kernel_rfl
  exact e_.mpr h
abbrev W139_l0 (l : List Tree) (list : Int) (x8 : Int) (N0 : LSt U → Prop) (Q : AExit → LSt U → Prop) : Prop := awp cfg (know know139) (drawOk cfg (know know139)) Try.f139.ntmps lv139 (cd Try.f139 [1, 0, 1, 0, 0]) (head139_0 l list x8) (AExit.then N0 (AExit.inBlock 0 (seqK cfg (know know139) (drawOk cfg (know know139)) Try.f139.ntmps lv139 (cd Try.f139 [1, 1]) Q)))
/-- the loop at [1, 0, 1, 0] -/
theorem vc139_l0 (l : List Tree) (list : Int) (x8 : Int) (N0 : LSt U → Prop) (Q : AExit → LSt U → Prop) (h : ((decide ((x8 : Int) < (l.length : Int))) = true → ((0 : Int) ≤ x8 ∧ x8 < (l.length : Int)) ∧ (pre136 ((Tree.mk (Tree.kind (List.getD l (Int.toNat x8) Tree.nil)) (Tree.words (List.getD l (Int.toNat x8) Tree.nil)) (Tree.kids (List.getD l (Int.toNat x8) Tree.nil))), (list, ()), ())) ∧ (((!(rightT (Tree.mk list [] [(Tree.mk (Tree.kind (List.getD l (Int.toNat x8) Tree.nil)) (Tree.words (List.getD l (Int.toNat x8) Tree.nil)) (Tree.kids (List.getD l (Int.toNat x8) Tree.nil)))]) 64)) = true → Q .ret (⟨[(4, .c (.int .i64 x8))], [((.x 0), [.int .i64 list])], []⟩ : LSt U)) ∧ ((!(rightT (Tree.mk list [] [(Tree.mk (Tree.kind (List.getD l (Int.toNat x8) Tree.nil)) (Tree.words (List.getD l (Int.toNat x8) Tree.nil)) (Tree.kids (List.getD l (Int.toNat x8) Tree.nil)))]) 64)) = false → (InR ((x8 : Int) + 1)) ∧ (N0 (head139_0 l list ((x8 : Int) + 1)))))) ∧ ((decide ((x8 : Int) < (l.length : Int))) = false → Q .ret (⟨[(4, .c (.int .i64 (-1)))], [((.x 0), [.int .i64 list])], []⟩ : LSt U))) :
    W139_l0 l list x8 N0 Q := by
  have e_ : (awp cfg (know know139) (drawOk cfg (know know139)) Try.f139.ntmps lv139 (cd Try.f139 [1, 0, 1, 0, 0]) (head139_0 l list x8) (AExit.then N0 (AExit.inBlock 0 (seqK cfg (know know139) (drawOk cfg (know know139)) Try.f139.ntmps lv139 (cd Try.f139 [1, 1]) Q)))) = ((((decide ((x8 : Int) < (l.length : Int))) = true → (((0 : Int) ≤ x8 ∧ x8 < (l.length : Int)) ∧ (pre136 ((Tree.mk (Tree.kind (List.getD l (Int.toNat x8) Tree.nil)) (Tree.words (List.getD l (Int.toNat x8) Tree.nil)) (Tree.kids (List.getD l (Int.toNat x8) Tree.nil))), (list, ()), ())) ∧ (((!(rightT (Tree.mk list [] [(Tree.mk (Tree.kind (List.getD l (Int.toNat x8) Tree.nil)) (Tree.words (List.getD l (Int.toNat x8) Tree.nil)) (Tree.kids (List.getD l (Int.toNat x8) Tree.nil)))]) 64)) = true → (Q .ret (⟨[(4, .c (.int .i64 x8))], [((.x 0), [.int .i64 list])], []⟩ : LSt U))) ∧ ((!(rightT (Tree.mk list [] [(Tree.mk (Tree.kind (List.getD l (Int.toNat x8) Tree.nil)) (Tree.words (List.getD l (Int.toNat x8) Tree.nil)) (Tree.kids (List.getD l (Int.toNat x8) Tree.nil)))]) 64)) = false → (InR ((x8 : Int) + 1)) ∧ (N0 (head139_0 l list ((x8 : Int) + 1))))))) ∧ ((decide ((x8 : Int) < (l.length : Int))) = false → (Q .ret (⟨[(4, .c (.int .i64 (-1)))], [((.x 0), [.int .i64 list])], []⟩ : LSt U))))) := by kernel_rfl
  exact e_.mpr ⟨fun c_1 => ⟨(h.1 c_1).1, (h.1 c_1).2.1, ⟨fun c_2 => ((h.1 c_1).2.2.1 c_2), fun c_2 => ⟨((h.1 c_1).2.2.2 c_2).1, ((h.1 c_1).2.2.2 c_2).2⟩⟩⟩, fun c_1 => (h.2 c_1)⟩
def Body139 (l : List Tree) (list : Int)  : Prop := awp cfg (know (know139)) (drawOk cfg (know (know139))) Try.f139.ntmps lv139 (cd Try.f139 []) (entry (args139.can (l, (list, ()), ())) (args139.canX (l, (list, ()), ()))) (EndsQ cfg Try.f139.ntmps Try.f139.results.toList (res139 (l, (list, ()), ())) (resX139 (l, (list, ()), ())))
theorem make139 (c136 : Contract Try.prog cfg 136 spec136) (hb : ∀ (l : List Tree) (list : Int) (_ : Unit), pre139 (l, (list, ()), ()) → Body139 l list) : Contract Try.prog cfg 139 spec139 :=
  contractX_flat (l := [(136, spec136)]) cfgOk rfl (⟨c136, trivial⟩) lv139 Try.func139 rfl rfl 2 (fun _ => rfl) (by decide) (fun ⟨l, ⟨list, _⟩, _⟩ => hb l list ())

/-! slices.ContainsFunc[[]cento/api.Tree,cento/api.Tree] -/
noncomputable def know135 : List (FuncId × Fs U) := [(139, spec139)]
def lv135 : Lives U := fun i => match i with
  | 0 => ([(0, []), (1, [])], [((.x 0), [])])
  | 1 => ([(4, [])], [((.x 0), [])])
  | _ => ([], [])
abbrev W135 (l : List Tree) (list : Int) (Q : AExit → LSt U → Prop) : Prop := awp cfg (know know135) (drawOk cfg (know know135)) Try.f135.ntmps lv135 (cd Try.f135 []) (⟨[(0, .c (.slice (U := U) .tree l .unk)), (1, .clo 136 [(.x 0)])], [((.x 0), [.int .i64 list])], []⟩ : LSt U) Q
/-- the body -/
theorem vc135 (l : List Tree) (list : Int) (Q : AExit → LSt U → Prop) (h : (pre139 (l, (list, ()), ())) ∧ (Q .ret (⟨[(4, .c (.bool (decide ((0 : Int) ≤ (badAt list l 0)))))], [((.x 0), [.int .i64 list])], []⟩ : LSt U))) :
    W135 l list Q := by
  have e_ : (awp cfg (know know135) (drawOk cfg (know know135)) Try.f135.ntmps lv135 (cd Try.f135 []) (⟨[(0, .c (.slice (U := U) .tree l .unk)), (1, .clo 136 [(.x 0)])], [((.x 0), [.int .i64 list])], []⟩ : LSt U) Q) = (((pre139 (l, (list, ()), ())) ∧ (Q .ret (⟨[(4, .c (.bool (decide ((0 : Int) ≤ (badAt list l 0)))))], [((.x 0), [.int .i64 list])], []⟩ : LSt U)))) := by kernel_rfl
  exact e_.mpr ⟨h.1, h.2⟩
def Body135 (l : List Tree) (list : Int)  : Prop := awp cfg (know (know135)) (drawOk cfg (know (know135))) Try.f135.ntmps lv135 (cd Try.f135 []) (entry (args135.can (l, (list, ()), ())) (args135.canX (l, (list, ()), ()))) (EndsQ cfg Try.f135.ntmps Try.f135.results.toList (res135 (l, (list, ()), ())) (resX135 (l, (list, ()), ())))
theorem make135 (c139 : Contract Try.prog cfg 139 spec139) (hb : ∀ (l : List Tree) (list : Int) (_ : Unit), pre135 (l, (list, ()), ()) → Body135 l list) : Contract Try.prog cfg 135 spec135 :=
  contractX_flat (l := [(139, spec139)]) cfgOk rfl (⟨c139, trivial⟩) lv135 Try.func135 rfl rfl 2 (fun _ => rfl) (by decide) (fun ⟨l, ⟨list, _⟩, _⟩ => hb l list ())

end Go.AM.Ytlahjnelghpmeaa

namespace Go.AM.Ytlahjnelghpmeaa
open Go.AM Go.Proofs

theorem c136 : Contract Try.prog cfg 136 spec136 := by
  refine make136 c137 ?_
  intro t list _ hp
  simp only [pre136] at hp
  refine vc136 _ _ _ ?_
  (simp only [Tree.eta, Edit.eta, Tree.kind_mk, Tree.words_mk, Tree.kids_mk])
  refine ⟨by simp only [pre137]; exact hp, ?_⟩
  simp only [res136, resX136]
  (repeat' (first | exact trivial | exact rfl | refine And.intro ?_ ?_))

theorem badAt_drop {list : Int} {l : List Tree} : ∀ (i : Nat), (∀ t ∈ l.take i, rightT (Tree.mk list [] [t]) 64 = true) → i ≤ l.length → badAt list l 0 = badAt list (l.drop i) i
  | 0, _, _ => by simp
  | i + 1, h, hi => by
    have ih := badAt_drop i (fun t ht => h t (by rw [List.take_add_one]; exact List.mem_append.2 (Or.inl ht))) (by omega)
    rw [ih]
    have e : l.drop i = l.getD i Tree.nil :: l.drop (i + 1) := by
      have := dropI (l := l) (i := (i : Int)) (by omega) (by omega) Tree.nil
      simpa using this
    have hm : l.getD i Tree.nil ∈ l.take (i + 1) := by
      rw [List.mem_take_iff_getElem]
      exact ⟨i, by omega, by simp [List.getD, List.getElem?_eq_getElem (show i < l.length by omega)]⟩
    rw [e, badAt, if_pos (h _ hm)]
    simp

theorem c139 : Contract Try.prog cfg 139 spec139 := by
  refine make139 c136 ?_
  intro l list _ hp
  simp only [pre139] at hp
  refine vc139 _ _ _ ?_
  refine loop_rule (ι := Int) (fun s => head139_0 l list s) (fun s => 0 ≤ s ∧ s ≤ l.length ∧ ∀ t ∈ l.take s.toNat, rightT (Tree.mk list [] [t]) 64 = true) (fun s => ((l.length : Int) - s).toNat) 0 rfl ⟨by simp, by simp, by simp⟩ ?_
  rintro i ⟨g1, g2, g3⟩
  have hb := badAt_drop (list := list) (l := l) i.toNat g3 (by omega)
  have hl := massK_len l
  refine vc139_l0 _ _ _ _ _ ?_
  (simp only [bif_tl, bif_fr, bif_tlf, bif_frf, Bool.not_eq_true', Bool.not_eq_false', decide_eq_true_eq, decide_eq_false_iff_not, beq_iff_eq, beq_eq_false_iff_ne, bne_iff_ne, ne_eq, bne_eq_false_iff_eq, Bool.or_eq_true, Bool.and_eq_true, Bool.or_eq_false_iff, Bool.and_eq_false_imp])
  (simp only [Tree.eta, Edit.eta, Tree.kind_mk, Tree.words_mk, Tree.kids_mk])
  refine ⟨fun hi => ⟨⟨g1, hi⟩, ?_, fun hc => ?_, fun hc => ?_⟩, fun hi => ?_⟩
  · have hm := mem_getD (l := l) (i := i.toNat) (by omega) Tree.nil
    simp only [pre136]
    have h1 := massK_mem hm
    exact ⟨by omega, rngK_mem hp.2.1 hm, hp.2.2⟩
  · rw [dropI g1 hi Tree.nil, badAt, if_neg (by rw [hc]; decide)] at hb
    simp only [res139, resX139]
    rw [hb, show ((i.toNat : Nat) : Int) = i by omega]
    (repeat' (first | exact trivial | exact rfl | refine And.intro ?_ ?_))
  · refine ⟨by unfold InR; omega, i + 1, rfl, ⟨by omega, by omega, fun t ht => ?_⟩, by omega⟩
    rw [show (i + 1).toNat = i.toNat + 1 by omega, List.take_add_one] at ht
    rcases List.mem_append.1 ht with ht | ht
    · exact g3 t ht
    · have e : l[i.toNat]? = some (l.getD i.toNat Tree.nil) := by
        simp [List.getD, List.getElem?_eq_getElem (show i.toNat < l.length by omega)]
      rw [e] at ht
      simp only [Option.toList_some, List.mem_singleton] at ht
      subst ht
      exact hc
  · rw [List.drop_of_length_le (by omega)] at hb
    simp only [res139, resX139]
    rw [hb, badAt]
    (repeat' (first | exact trivial | exact rfl | refine And.intro ?_ ?_))

theorem c135 : Contract Try.prog cfg 135 spec135 := by
  refine make135 c139 ?_
  intro l list _ hp
  simp only [pre135] at hp
  refine vc135 _ _ _ ?_
  have hb := badAt_iff list l 0 (by decide)
  refine ⟨by simp only [pre139]; exact hp, ?_⟩
  have e : decide (0 ≤ badAt list l 0) = !(treesOk list l) := by
    rw [Bool.eq_iff_iff, decide_eq_true_eq, hb]
    cases treesOk list l <;> simp
  simp only [res135, resX135]
  rw [e]
  (repeat' (first | exact trivial | exact rfl | refine And.intro ?_ ?_))

end Go.AM.Ytlahjnelghpmeaa

namespace Go.AM
def wr (n : Int) : Int := IntKind.wrap .i64 n
def opLenW (o : Op) : Int := if o.kind = 3 then 1 else wr (o.n + o.l.length)
def capW (n : Int) : Int := if 1048576 < n then 1048576 else n
def lenAW : List Op → Int → Int
  | [], n => n
  | o :: r, n => lenAW r (if o.kind = 2 then n else capW (wr (n + opLenW o)))
def lenBW : List Op → Int → Int
  | [], n => n
  | o :: r, n => lenBW r (if o.kind = 1 then n else capW (wr (n + opLenW o)))
def bareE (e : Edit) : Bool :=
  if (e.kind ≠ 1 ∧ ¬(noneT e.old = true ∧ noneT e.new = true)) ∨ (e.kind ≠ 2 ∧ ¬(e.words.length = 0 ∧ e.kids.length = 0)) ∨ (e.kind ≠ 3 ∧ (e.list ≠ 0 ∨ e.ops.length ≠ 0)) then false else true
end Go.AM

namespace Go.AM.Ytlahjnelghpmeaa
open Go.AM Go.Proofs

def args56 : ArgL (Edit × Unit) := (.cons (aEl .edit) .nil)
def pre56 (a : Edit × Unit) : Prop := massE a.1 ≤ 1000000
noncomputable def res56 (a : Edit × Unit) : V U := .tup [(false, [.int .i64 (lenAW (Edit.ops a.1) 0)]), (false, [.int .i64 (lenBW (Edit.ops a.1) 0)])]
noncomputable def spec56 : Fs U := fs args56 (fun a => [pre56 a]) res56

/-! cento/edit.Lengths -/
noncomputable def know56 : List (FuncId × Fs U) := []
def lv56 : Lives U := fun i => match i with
  | 0 => ([(1, [])], [((.loc 1), [])])
  | 1 => ([(1, []), (4, []), (5, [])], [((.loc 1), [])])
  | 2 => ([(4, []), (5, []), (10, []), (11, []), (12, [])], [])
  | 3 => ([(4, []), (5, []), (10, []), (11, []), (12, []), (13, [])], [])
  | 4 => ([(4, []), (5, []), (7, []), (10, []), (11, []), (12, [])], [((.loc 7), [])])
  | 5 => ([(4, []), (5, []), (7, []), (8, []), (10, []), (11, []), (12, [])], [((.loc 7), [])])
  | 6 => ([(4, []), (5, []), (7, []), (8, []), (10, []), (11, []), (12, []), (24, [])], [((.loc 7), [])])
  | 7 => ([(4, []), (5, []), (7, []), (8, []), (10, []), (11, []), (12, []), (24, [])], [((.loc 7), [])])
  | 8 => ([(4, []), (5, []), (7, []), (8, []), (10, []), (11, []), (12, []), (27, [])], [((.loc 7), [])])
  | 9 => ([(4, []), (5, []), (7, []), (8, []), (10, []), (11, []), (12, []), (27, [])], [((.loc 7), [])])
  | 10 => ([(4, []), (5, []), (8, []), (10, []), (11, []), (12, []), (34, [])], [])
  | 11 => ([(4, []), (5, []), (10, []), (11, []), (12, [])], [])
  | 12 => ([(4, []), (5, []), (10, []), (11, []), (12, [])], [])
  | 13 => ([(2, []), (3, [])], [])
  | _ => ([], [])
def head56_0 (e : Edit) (x4 : Int) (x5 : Int) (x12 : Int) : LSt U := (⟨[(4, .c (.int .i64 x4)), (5, .c (.int .i64 x5)), (10, .c (.slice (U := U) .op (Edit.ops e) .unk)), (11, .c (.int .i64 ((Edit.ops e).length : Int))), (12, .c (.int .i64 x12))], [], []⟩ : LSt U)
def head56_1 (e : Edit) (x4 : Int) (x5 : Int) (x12 : Int) (x8_a : Int) : LSt U := (⟨[(4, .c (.int .i64 x4)), (5, .c (.int .i64 x5)), (7, .ptr (.loc 7) 0), (8, .c (.int .i64 x8_a)), (10, .c (.slice (U := U) .op (Edit.ops e) .unk)), (11, .c (.int .i64 ((Edit.ops e).length : Int))), (12, .c (.int .i64 x12)), (24, .c (.bool (((OpOf.kind (List.getD (Edit.ops e) (Int.toNat x12) Op.nil)) : Int) == 3)))], [((.loc 7), [.int .i64 (OpOf.kind (List.getD (Edit.ops e) (Int.toNat x12) Op.nil)), .int .i64 (OpOf.n (List.getD (Edit.ops e) (Int.toNat x12) Op.nil)), .slice (U := U) .tree (OpOf.l (List.getD (Edit.ops e) (Int.toNat x12) Op.nil)) .unk, .int .i64 (Edit.kind (OpOf.e (List.getD (Edit.ops e) (Int.toNat x12) Op.nil))), .int .i64 (Tree.kind (Edit.old (OpOf.e (List.getD (Edit.ops e) (Int.toNat x12) Op.nil)))), .slice (U := U) .u64 (Tree.words (Edit.old (OpOf.e (List.getD (Edit.ops e) (Int.toNat x12) Op.nil)))) .unk, .slice (U := U) .tree (Tree.kids (Edit.old (OpOf.e (List.getD (Edit.ops e) (Int.toNat x12) Op.nil)))) .unk, .int .i64 (Tree.kind (Edit.new (OpOf.e (List.getD (Edit.ops e) (Int.toNat x12) Op.nil)))), .slice (U := U) .u64 (Tree.words (Edit.new (OpOf.e (List.getD (Edit.ops e) (Int.toNat x12) Op.nil)))) .unk, .slice (U := U) .tree (Tree.kids (Edit.new (OpOf.e (List.getD (Edit.ops e) (Int.toNat x12) Op.nil)))) .unk, .slice (U := U) .wedit (Edit.words (OpOf.e (List.getD (Edit.ops e) (Int.toNat x12) Op.nil))) .unk, .slice (U := U) .kid (Edit.kids (OpOf.e (List.getD (Edit.ops e) (Int.toNat x12) Op.nil))) .unk, .int .i64 (Edit.list (OpOf.e (List.getD (Edit.ops e) (Int.toNat x12) Op.nil))), .slice (U := U) .op (Edit.ops (OpOf.e (List.getD (Edit.ops e) (Int.toNat x12) Op.nil))) .unk])], []⟩ : LSt U)
def head56_2 (e : Edit) (x5 : Int) (x12 : Int) (x8_a : Int) (x4_b : Int) : LSt U := (⟨[(4, .c (.int .i64 x4_b)), (5, .c (.int .i64 x5)), (7, .ptr (.loc 7) 0), (8, .c (.int .i64 x8_a)), (10, .c (.slice (U := U) .op (Edit.ops e) .unk)), (11, .c (.int .i64 ((Edit.ops e).length : Int))), (12, .c (.int .i64 x12)), (27, .c (.bool (((OpOf.kind (List.getD (Edit.ops e) (Int.toNat x12) Op.nil)) : Int) != 2)))], [((.loc 7), [.int .i64 (OpOf.kind (List.getD (Edit.ops e) (Int.toNat x12) Op.nil)), .int .i64 (OpOf.n (List.getD (Edit.ops e) (Int.toNat x12) Op.nil)), .slice (U := U) .tree (OpOf.l (List.getD (Edit.ops e) (Int.toNat x12) Op.nil)) .unk, .int .i64 (Edit.kind (OpOf.e (List.getD (Edit.ops e) (Int.toNat x12) Op.nil))), .int .i64 (Tree.kind (Edit.old (OpOf.e (List.getD (Edit.ops e) (Int.toNat x12) Op.nil)))), .slice (U := U) .u64 (Tree.words (Edit.old (OpOf.e (List.getD (Edit.ops e) (Int.toNat x12) Op.nil)))) .unk, .slice (U := U) .tree (Tree.kids (Edit.old (OpOf.e (List.getD (Edit.ops e) (Int.toNat x12) Op.nil)))) .unk, .int .i64 (Tree.kind (Edit.new (OpOf.e (List.getD (Edit.ops e) (Int.toNat x12) Op.nil)))), .slice (U := U) .u64 (Tree.words (Edit.new (OpOf.e (List.getD (Edit.ops e) (Int.toNat x12) Op.nil)))) .unk, .slice (U := U) .tree (Tree.kids (Edit.new (OpOf.e (List.getD (Edit.ops e) (Int.toNat x12) Op.nil)))) .unk, .slice (U := U) .wedit (Edit.words (OpOf.e (List.getD (Edit.ops e) (Int.toNat x12) Op.nil))) .unk, .slice (U := U) .kid (Edit.kids (OpOf.e (List.getD (Edit.ops e) (Int.toNat x12) Op.nil))) .unk, .int .i64 (Edit.list (OpOf.e (List.getD (Edit.ops e) (Int.toNat x12) Op.nil))), .slice (U := U) .op (Edit.ops (OpOf.e (List.getD (Edit.ops e) (Int.toNat x12) Op.nil))) .unk])], []⟩ : LSt U)
abbrev W56 (e : Edit) (Q : AExit → LSt U → Prop) : Prop := awp cfg (knowW know56) (drawOk cfg (knowW know56)) Try.f56.ntmps lv56 (cd Try.f56 []) (⟨[(0, .agg [.int .i64 (Edit.kind e), .int .i64 (Tree.kind (Edit.old e)), .slice (U := U) .u64 (Tree.words (Edit.old e)) .unk, .slice (U := U) .tree (Tree.kids (Edit.old e)) .unk, .int .i64 (Tree.kind (Edit.new e)), .slice (U := U) .u64 (Tree.words (Edit.new e)) .unk, .slice (U := U) .tree (Tree.kids (Edit.new e)) .unk, .slice (U := U) .wedit (Edit.words e) .unk, .slice (U := U) .kid (Edit.kids e) .unk, .int .i64 (Edit.list e), .slice (U := U) .op (Edit.ops e) .unk])], [], []⟩ : LSt U) Q
/-- the body -/
theorem vc56 (e : Edit) (Q : AExit → LSt U → Prop) (h : LoopWp (awp cfg (knowW know56) (drawOk cfg (knowW know56)) Try.f56.ntmps lv56 (cd Try.f56 [1, 1, 0, 1, 0, 0])) (head56_0 e 0 0 0) (AExit.inBlock 0 (seqK cfg (knowW know56) (drawOk cfg (knowW know56)) Try.f56.ntmps lv56 (cd Try.f56 [1, 1, 1]) Q))) :
    W56 e Q := by
  have e_ : (awp cfg (knowW know56) (drawOk cfg (knowW know56)) Try.f56.ntmps lv56 (cd Try.f56 []) (⟨[(0, .agg [.int .i64 (Edit.kind e), .int .i64 (Tree.kind (Edit.old e)), .slice (U := U) .u64 (Tree.words (Edit.old e)) .unk, .slice (U := U) .tree (Tree.kids (Edit.old e)) .unk, .int .i64 (Tree.kind (Edit.new e)), .slice (U := U) .u64 (Tree.words (Edit.new e)) .unk, .slice (U := U) .tree (Tree.kids (Edit.new e)) .unk, .slice (U := U) .wedit (Edit.words e) .unk, .slice (U := U) .kid (Edit.kids e) .unk, .int .i64 (Edit.list e), .slice (U := U) .op (Edit.ops e) .unk])], [], []⟩ : LSt U) Q) = ((((LoopWp (awp cfg (knowW know56) (drawOk cfg (knowW know56)) Try.f56.ntmps lv56 (cd Try.f56 [1, 1, 0, 1, 0, 0])) (head56_0 e 0 0 0) (AExit.inBlock 0 (seqK cfg (knowW know56) (drawOk cfg (knowW know56)) Try.f56.ntmps lv56 (cd Try.f56 [1, 1, 1]) Q)))))) := by kernel_rfl
  exact e_.mpr h
abbrev W56_l0 (e : Edit) (x4 : Int) (x5 : Int) (x12 : Int) (N0 : LSt U → Prop) (Q : AExit → LSt U → Prop) : Prop := awp cfg (knowW know56) (drawOk cfg (knowW know56)) Try.f56.ntmps lv56 (cd Try.f56 [1, 1, 0, 1, 0, 0]) (head56_0 e x4 x5 x12) (AExit.then N0 (AExit.inBlock 0 (seqK cfg (knowW know56) (drawOk cfg (knowW know56)) Try.f56.ntmps lv56 (cd Try.f56 [1, 1, 1]) Q)))
/-- the loop at [1, 1, 0, 1, 0] -/
theorem vc56_l0 (e : Edit) (x4 : Int) (x5 : Int) (x12 : Int) (N0 : LSt U → Prop) (Q : AExit → LSt U → Prop) (h : ((decide ((x12 : Int) < ((Edit.ops e).length : Int))) = true → ((0 : Int) ≤ x12 ∧ x12 < ((Edit.ops e).length : Int)) ∧ (((((OpOf.kind (List.getD (Edit.ops e) (Int.toNat x12) Op.nil)) : Int) == 3) = true → awp cfg (knowW know56) (drawOk cfg (knowW know56)) Try.f56.ntmps lv56 (cd Try.f56 [1, 1, 0, 1, 0, 0, 1, 1, 0, 0, 1, 1, 1]) (head56_1 e x4 x5 x12 1) (AExit.inBlock 1 (seqK cfg (knowW know56) (drawOk cfg (knowW know56)) Try.f56.ntmps lv56 (cd Try.f56 [1, 1, 0, 1, 0, 0, 1, 1, 1]) (AExit.then N0 (AExit.inBlock 0 (seqK cfg (knowW know56) (drawOk cfg (knowW know56)) Try.f56.ntmps lv56 (cd Try.f56 [1, 1, 1]) Q)))))) ∧ ((((OpOf.kind (List.getD (Edit.ops e) (Int.toNat x12) Op.nil)) : Int) == 3) = false → awp cfg (knowW know56) (drawOk cfg (knowW know56)) Try.f56.ntmps lv56 (cd Try.f56 [1, 1, 0, 1, 0, 0, 1, 1, 0, 0, 1, 1, 1]) (head56_1 e x4 x5 x12 (IntKind.wrap .i64 (((OpOf.n (List.getD (Edit.ops e) (Int.toNat x12) Op.nil)) : Int) + ((OpOf.l (List.getD (Edit.ops e) (Int.toNat x12) Op.nil)).length : Int)))) (AExit.inBlock 1 (seqK cfg (knowW know56) (drawOk cfg (knowW know56)) Try.f56.ntmps lv56 (cd Try.f56 [1, 1, 0, 1, 0, 0, 1, 1, 1]) (AExit.then N0 (AExit.inBlock 0 (seqK cfg (knowW know56) (drawOk cfg (knowW know56)) Try.f56.ntmps lv56 (cd Try.f56 [1, 1, 1]) Q)))))))) ∧ ((decide ((x12 : Int) < ((Edit.ops e).length : Int))) = false → Q .ret (⟨[(2, .c (.int .i64 x4)), (3, .c (.int .i64 x5))], [], []⟩ : LSt U))) :
    W56_l0 e x4 x5 x12 N0 Q := by
  have e_ : (awp cfg (knowW know56) (drawOk cfg (knowW know56)) Try.f56.ntmps lv56 (cd Try.f56 [1, 1, 0, 1, 0, 0]) (head56_0 e x4 x5 x12) (AExit.then N0 (AExit.inBlock 0 (seqK cfg (knowW know56) (drawOk cfg (knowW know56)) Try.f56.ntmps lv56 (cd Try.f56 [1, 1, 1]) Q)))) = ((((decide ((x12 : Int) < ((Edit.ops e).length : Int))) = true → ((0 : Int) ≤ x12 ∧ x12 < ((Edit.ops e).length : Int)) ∧ (((((((OpOf.kind (List.getD (Edit.ops e) (Int.toNat x12) Op.nil)) : Int) == 3) = true → (awp cfg (knowW know56) (drawOk cfg (knowW know56)) Try.f56.ntmps lv56 (cd Try.f56 [1, 1, 0, 1, 0, 0, 1, 1, 0, 0, 1, 1, 1]) (head56_1 e x4 x5 x12 1) (AExit.inBlock 1 (seqK cfg (knowW know56) (drawOk cfg (knowW know56)) Try.f56.ntmps lv56 (cd Try.f56 [1, 1, 0, 1, 0, 0, 1, 1, 1]) (AExit.then N0 (AExit.inBlock 0 (seqK cfg (knowW know56) (drawOk cfg (knowW know56)) Try.f56.ntmps lv56 (cd Try.f56 [1, 1, 1]) Q))))))) ∧ ((((OpOf.kind (List.getD (Edit.ops e) (Int.toNat x12) Op.nil)) : Int) == 3) = false → awp cfg (knowW know56) (drawOk cfg (knowW know56)) Try.f56.ntmps lv56 (cd Try.f56 [1, 1, 0, 1, 0, 0, 1, 1, 0, 0, 1, 1, 1]) (head56_1 e x4 x5 x12 (IntKind.wrap .i64 (((OpOf.n (List.getD (Edit.ops e) (Int.toNat x12) Op.nil)) : Int) + ((OpOf.l (List.getD (Edit.ops e) (Int.toNat x12) Op.nil)).length : Int)))) (AExit.inBlock 1 (seqK cfg (knowW know56) (drawOk cfg (knowW know56)) Try.f56.ntmps lv56 (cd Try.f56 [1, 1, 0, 1, 0, 0, 1, 1, 1]) (AExit.then N0 (AExit.inBlock 0 (seqK cfg (knowW know56) (drawOk cfg (knowW know56)) Try.f56.ntmps lv56 (cd Try.f56 [1, 1, 1]) Q)))))))))) ∧ ((decide ((x12 : Int) < ((Edit.ops e).length : Int))) = false → (Q .ret (⟨[(2, .c (.int .i64 x4)), (3, .c (.int .i64 x5))], [], []⟩ : LSt U))))) := by kernel_rfl
  exact e_.mpr ⟨fun c_1 => ⟨(h.1 c_1).1, ⟨fun c_2 => ((h.1 c_1).2.1 c_2), fun c_2 => ((h.1 c_1).2.2 c_2)⟩⟩, fun c_1 => (h.2 c_1)⟩
abbrev W56_c1 (e : Edit) (x4 : Int) (x5 : Int) (x12 : Int) (x8_a : Int) (N0 : LSt U → Prop) (Q : AExit → LSt U → Prop) : Prop := awp cfg (knowW know56) (drawOk cfg (knowW know56)) Try.f56.ntmps lv56 (cd Try.f56 [1, 1, 0, 1, 0, 0, 1, 1, 0, 0, 1, 1, 1]) (head56_1 e x4 x5 x12 x8_a) (AExit.inBlock 1 (seqK cfg (knowW know56) (drawOk cfg (knowW know56)) Try.f56.ntmps lv56 (cd Try.f56 [1, 1, 0, 1, 0, 0, 1, 1, 1]) (AExit.then N0 (AExit.inBlock 0 (seqK cfg (knowW know56) (drawOk cfg (knowW know56)) Try.f56.ntmps lv56 (cd Try.f56 [1, 1, 1]) Q)))))
/-- what follows at [1, 1, 0, 1, 0, 0, 1, 1, 0, 0, 1, 1, 1] -/
theorem vc56_c1 (e : Edit) (x4 : Int) (x5 : Int) (x12 : Int) (x8_a : Int) (N0 : LSt U → Prop) (Q : AExit → LSt U → Prop) (h : ((((OpOf.kind (List.getD (Edit.ops e) (Int.toNat x12) Op.nil)) : Int) != 2) = true → awp cfg (knowW know56) (drawOk cfg (knowW know56)) Try.f56.ntmps lv56 (cd Try.f56 [1, 1, 0, 1, 0, 0, 1, 1, 0, 0, 1, 1, 1, 1]) (head56_2 e x5 x12 x8_a (if (1048576 : Int) < (IntKind.wrap .i64 ((x4 : Int) + x8_a)) then 1048576 else (IntKind.wrap .i64 ((x4 : Int) + x8_a)))) (AExit.inBlock 1 (seqK cfg (knowW know56) (drawOk cfg (knowW know56)) Try.f56.ntmps lv56 (cd Try.f56 [1, 1, 0, 1, 0, 0, 1, 1, 1]) (AExit.then N0 (AExit.inBlock 0 (seqK cfg (knowW know56) (drawOk cfg (knowW know56)) Try.f56.ntmps lv56 (cd Try.f56 [1, 1, 1]) Q)))))) ∧ ((((OpOf.kind (List.getD (Edit.ops e) (Int.toNat x12) Op.nil)) : Int) != 2) = false → awp cfg (knowW know56) (drawOk cfg (knowW know56)) Try.f56.ntmps lv56 (cd Try.f56 [1, 1, 0, 1, 0, 0, 1, 1, 0, 0, 1, 1, 1, 1]) (head56_2 e x5 x12 x8_a x4) (AExit.inBlock 1 (seqK cfg (knowW know56) (drawOk cfg (knowW know56)) Try.f56.ntmps lv56 (cd Try.f56 [1, 1, 0, 1, 0, 0, 1, 1, 1]) (AExit.then N0 (AExit.inBlock 0 (seqK cfg (knowW know56) (drawOk cfg (knowW know56)) Try.f56.ntmps lv56 (cd Try.f56 [1, 1, 1]) Q))))))) :
    W56_c1 e x4 x5 x12 x8_a N0 Q := by
  have e_ : (awp cfg (knowW know56) (drawOk cfg (knowW know56)) Try.f56.ntmps lv56 (cd Try.f56 [1, 1, 0, 1, 0, 0, 1, 1, 0, 0, 1, 1, 1]) (head56_1 e x4 x5 x12 x8_a) (AExit.inBlock 1 (seqK cfg (knowW know56) (drawOk cfg (knowW know56)) Try.f56.ntmps lv56 (cd Try.f56 [1, 1, 0, 1, 0, 0, 1, 1, 1]) (AExit.then N0 (AExit.inBlock 0 (seqK cfg (knowW know56) (drawOk cfg (knowW know56)) Try.f56.ntmps lv56 (cd Try.f56 [1, 1, 1]) Q)))))) = ((((((OpOf.kind (List.getD (Edit.ops e) (Int.toNat x12) Op.nil)) : Int) != 2) = true → (awp cfg (knowW know56) (drawOk cfg (knowW know56)) Try.f56.ntmps lv56 (cd Try.f56 [1, 1, 0, 1, 0, 0, 1, 1, 0, 0, 1, 1, 1, 1]) (head56_2 e x5 x12 x8_a (if (1048576 : Int) < (IntKind.wrap .i64 ((x4 : Int) + x8_a)) then 1048576 else (IntKind.wrap .i64 ((x4 : Int) + x8_a)))) (AExit.inBlock 1 (seqK cfg (knowW know56) (drawOk cfg (knowW know56)) Try.f56.ntmps lv56 (cd Try.f56 [1, 1, 0, 1, 0, 0, 1, 1, 1]) (AExit.then N0 (AExit.inBlock 0 (seqK cfg (knowW know56) (drawOk cfg (knowW know56)) Try.f56.ntmps lv56 (cd Try.f56 [1, 1, 1]) Q))))))) ∧ ((((OpOf.kind (List.getD (Edit.ops e) (Int.toNat x12) Op.nil)) : Int) != 2) = false → awp cfg (knowW know56) (drawOk cfg (knowW know56)) Try.f56.ntmps lv56 (cd Try.f56 [1, 1, 0, 1, 0, 0, 1, 1, 0, 0, 1, 1, 1, 1]) (head56_2 e x5 x12 x8_a x4) (AExit.inBlock 1 (seqK cfg (knowW know56) (drawOk cfg (knowW know56)) Try.f56.ntmps lv56 (cd Try.f56 [1, 1, 0, 1, 0, 0, 1, 1, 1]) (AExit.then N0 (AExit.inBlock 0 (seqK cfg (knowW know56) (drawOk cfg (knowW know56)) Try.f56.ntmps lv56 (cd Try.f56 [1, 1, 1]) Q)))))))) := by kernel_rfl
  exact e_.mpr ⟨fun c_3 => (h.1 c_3), fun c_3 => (h.2 c_3)⟩
abbrev W56_c2 (e : Edit) (x5 : Int) (x12 : Int) (x8_a : Int) (x4_b : Int) (N0 : LSt U → Prop) (Q : AExit → LSt U → Prop) : Prop := awp cfg (knowW know56) (drawOk cfg (knowW know56)) Try.f56.ntmps lv56 (cd Try.f56 [1, 1, 0, 1, 0, 0, 1, 1, 0, 0, 1, 1, 1, 1]) (head56_2 e x5 x12 x8_a x4_b) (AExit.inBlock 1 (seqK cfg (knowW know56) (drawOk cfg (knowW know56)) Try.f56.ntmps lv56 (cd Try.f56 [1, 1, 0, 1, 0, 0, 1, 1, 1]) (AExit.then N0 (AExit.inBlock 0 (seqK cfg (knowW know56) (drawOk cfg (knowW know56)) Try.f56.ntmps lv56 (cd Try.f56 [1, 1, 1]) Q)))))
/-- what follows at [1, 1, 0, 1, 0, 0, 1, 1, 0, 0, 1, 1, 1, 1] -/
theorem vc56_c2 (e : Edit) (x5 : Int) (x12 : Int) (x8_a : Int) (x4_b : Int) (N0 : LSt U → Prop) (Q : AExit → LSt U → Prop) (h : ((((OpOf.kind (List.getD (Edit.ops e) (Int.toNat x12) Op.nil)) : Int) != 1) = true → N0 (head56_0 e x4_b (if (1048576 : Int) < (IntKind.wrap .i64 ((x5 : Int) + x8_a)) then 1048576 else (IntKind.wrap .i64 ((x5 : Int) + x8_a))) (IntKind.wrap .i64 ((x12 : Int) + 1)))) ∧ ((((OpOf.kind (List.getD (Edit.ops e) (Int.toNat x12) Op.nil)) : Int) != 1) = false → N0 (head56_0 e x4_b x5 (IntKind.wrap .i64 ((x12 : Int) + 1))))) :
    W56_c2 e x5 x12 x8_a x4_b N0 Q := by
  have e_ : (awp cfg (knowW know56) (drawOk cfg (knowW know56)) Try.f56.ntmps lv56 (cd Try.f56 [1, 1, 0, 1, 0, 0, 1, 1, 0, 0, 1, 1, 1, 1]) (head56_2 e x5 x12 x8_a x4_b) (AExit.inBlock 1 (seqK cfg (knowW know56) (drawOk cfg (knowW know56)) Try.f56.ntmps lv56 (cd Try.f56 [1, 1, 0, 1, 0, 0, 1, 1, 1]) (AExit.then N0 (AExit.inBlock 0 (seqK cfg (knowW know56) (drawOk cfg (knowW know56)) Try.f56.ntmps lv56 (cd Try.f56 [1, 1, 1]) Q)))))) = ((((((OpOf.kind (List.getD (Edit.ops e) (Int.toNat x12) Op.nil)) : Int) != 1) = true → ((N0 (head56_0 e x4_b (if (1048576 : Int) < (IntKind.wrap .i64 ((x5 : Int) + x8_a)) then 1048576 else (IntKind.wrap .i64 ((x5 : Int) + x8_a))) (IntKind.wrap .i64 ((x12 : Int) + 1)))))) ∧ ((((OpOf.kind (List.getD (Edit.ops e) (Int.toNat x12) Op.nil)) : Int) != 1) = false → (N0 (head56_0 e x4_b x5 (IntKind.wrap .i64 ((x12 : Int) + 1))))))) := by kernel_rfl
  exact e_.mpr ⟨fun c_4 => (h.1 c_4), fun c_4 => (h.2 c_4)⟩
def Body56 (e : Edit)  : Prop := awp cfg (knowW (know56)) (drawOk cfg (knowW (know56))) Try.f56.ntmps lv56 (cd Try.f56 []) (entry (args56.can (e, ())) []) (EndsQ cfg Try.f56.ntmps Try.f56.results.toList (res56 (e, ())) [])
theorem make56 (hb : ∀ (e : Edit) (_ : Unit), pre56 (e, ()) → Body56 e) : Contract Try.prog cfg 56 spec56 :=
  contract_flatW (l := []) cfgOk rfl (trivial) lv56 Try.func56 rfl rfl 1 (fun _ => rfl) (by decide) (fun ⟨e, _⟩ => hb e ())

/-! cento/centoref20.Lengths -/
end Go.AM.Ytlahjnelghpmeaa
